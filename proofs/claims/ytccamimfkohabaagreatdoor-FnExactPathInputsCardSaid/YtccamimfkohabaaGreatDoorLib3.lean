/- Texts of this claim put into one: library or plain laws, without the program under test. -/
import Derived.Test.YtccamimfkohabaaGreatDoorLib2
import Derived.ChangeArms
import Derived.ChangeOld
import Derived.WideShapes
import Derived.Test.YtccamimfkohabaaGreatDoorLib1
set_option linter.unusedSimpArgs false
set_option linter.unusedVariables false
set_option linter.defProp false
section
namespace Go.GL
open Go.RowKit
section
variable{P:Program}{B:Bs}{N:Nat}{σ:List (Nat×Value)}{Γ:List HP}{Φ:List RF}{a:Act}{w:World}{Q:Exit->Act->World->Prop}
  {ops:Array Oper}{k d d2 d3:Nat}{t t' s' ty ty' ty2 yt:TypeId}{pos pos' pos2:String}{af af' af2:Array Edge}{x y y' z:Operand}{kd kk:IntKind}
def numOf:Option Value->Option Int
 |some (.int _ n)=>some n
 |_=>none
theorem Yl{o:Option Value}{n:Int}(h:numOf o=some n):∃kd,o=some (.int kd n):=by
 unfold numOf at h;grind
def Eix{s:Str}{n r:Int}(c:Cx B N σ Γ Φ a w)(hz:sidx? s n=some r)(h:∀fr,Cx B N ((d,.int .u8 r)::σ) Γ Φ fr w->wpFrom P ops Q (k+1) fr w)
  (ho:ops[k]? =some ⟨some d,.index t x y,ty,pos,af,none⟩:=by rfl)(hd:Nat.blt d N=true:=by rfl)(ht:P.underlying t=some .string:=by kernel_rfl)(hx:opd σ x=some s.val:=by kernel_rfl)(hy:opd σ y=some (.int kd n):=by kernel_rfl):wpFrom P ops Q k a w:=
 ZcB ht ho hd c.fr hx hy hz λfr hF=>h fr (c.to hF)
def Ecat{s1 s2 s3:Str}(c:Cx B N σ Γ Φ a w)(hz:cat? s1 s2=some s3)(h:∀fr,Cx B N ((d,s3.val)::σ) Γ Φ fr w->wpFrom P ops Q (k+1) fr w)
  (ho:ops[k]? =some ⟨some d,.binOp .add t x y yt,ty,pos,af,none⟩:=by rfl)(hd:Nat.blt d N=true:=by rfl)(hx:opd σ x=some s1.val:=by kernel_rfl)(hy:opd σ y=some s2.val:=by kernel_rfl):wpFrom P ops Q k a w:=
 Zeb ho hd c.fr hx hy hz λfr hF=>h fr (c.to hF)
def Ebs{E:TypeId}{v:Value}{l:List Byt}(c:Cx B N σ Γ Φ a w)(hl:Ava Γ Φ w (RO v l))(h:∀fr,Cx B N ((d,(strOf l).val)::σ) Γ Φ fr w->wpFrom P ops Q (k+1) fr w)(ht:P.underlying t=some (.slice E))
  (ho:ops[k]? =some ⟨some d,.convert t t' x,ty,pos,af,none⟩:=by rfl)(hd:Nat.blt d N=true:=by rfl)(hE:P.underlying E=some (.int .u8):=by kernel_rfl)(ht':P.underlying t'=some .string:=by kernel_rfl)(hx:opd σ x=some v:=by kernel_rfl):wpFrom P ops Q k a w:=by
 obtain⟨F,hl⟩:=c.use hl;exact EY ht hE ht' ho hd c.fr hx hl λfr hF=>h fr (c.to hF)
def Eshk{m n r:Int}(c:Cx B N σ Γ Φ a w)(hz:shrK? kk m n=some r)(h:∀fr,Cx B N ((d,.int kk r)::σ) Γ Φ fr w->wpFrom P ops Q (k+1) fr w)
  (ho:ops[k]? =some ⟨some d,.binOp .shr t x y yt,ty,pos,af,none⟩:=by rfl)(hd:Nat.blt d N=true:=by rfl)(hx:opd σ x=some (.int kk m):=by kernel_rfl)(hy:numOf (opd σ y)=some n:=by kernel_rfl):wpFrom P ops Q k a w:=by
 obtain⟨kd,hy⟩:=Yl hy;exact ZdG ho hd c.fr hx hy hz λfr hF=>h fr (c.to hF)
def Eshl{m n r:Int}(c:Cx B N σ Γ Φ a w)(hz:shl? m n=some r)(h:∀fr,Cx B N ((d,.int .i64 r)::σ) Γ Φ fr w->wpFrom P ops Q (k+1) fr w)
  (ho:ops[k]? =some ⟨some d,.binOp .shl t x y yt,ty,pos,af,none⟩:=by rfl)(hd:Nat.blt d N=true:=by rfl)(hx:opd σ x=some (.int .i64 m):=by kernel_rfl)(hy:numOf (opd σ y)=some n:=by kernel_rfl):wpFrom P ops Q k a w:=by
 obtain⟨kd,hy⟩:=Yl hy;exact ZdO ho hd c.fr hx hy hz λfr hF=>h fr (c.to hF)
def Eshr{m n r:Int}(c:Cx B N σ Γ Φ a w)(hz:shr? m n=some r)(h:∀fr,Cx B N ((d,.int .i64 r)::σ) Γ Φ fr w->wpFrom P ops Q (k+1) fr w)
  (ho:ops[k]? =some ⟨some d,.binOp .shr t x y yt,ty,pos,af,none⟩:=by rfl)(hd:Nat.blt d N=true:=by rfl)(hx:opd σ x=some (.int .i64 m):=by kernel_rfl)(hy:numOf (opd σ y)=some n:=by kernel_rfl):wpFrom P ops Q k a w:=by
 obtain⟨kd,hy⟩:=Yl hy;exact ZdL ho hd c.fr hx hy hz λfr hF=>h fr (c.to hF)
def Equo{m n r:Int}(c:Cx B N σ Γ Φ a w)(hz:quo? m n=some r)(h:∀fr,Cx B N ((d,.int .i64 r)::σ) Γ Φ fr w->wpFrom P ops Q (k+1) fr w)
  (ho:ops[k]? =some ⟨some d,.binOp .quo t x y yt,ty,pos,af,none⟩:=by rfl)(hd:Nat.blt d N=true:=by rfl)(hx:opd σ x=some (.int .i64 m):=by kernel_rfl)(hy:opd σ y=some (.int .i64 n):=by kernel_rfl):wpFrom P ops Q k a w:=
 Zea ho hd c.fr hx hy hz λfr hF=>h fr (c.to hF)
def Erem{m n r:Int}(c:Cx B N σ Γ Φ a w)(hz:rem? m n=some r)(h:∀fr,Cx B N ((d,.int .i64 r)::σ) Γ Φ fr w->wpFrom P ops Q (k+1) fr w)
  (ho:ops[k]? =some ⟨some d,.binOp .rem t x y yt,ty,pos,af,none⟩:=by rfl)(hd:Nat.blt d N=true:=by rfl)(hx:opd σ x=some (.int .i64 m):=by kernel_rfl)(hy:opd σ y=some (.int .i64 n):=by kernel_rfl):wpFrom P ops Q k a w:=
 ZdM ho hd c.fr hx hy hz λfr hF=>h fr (c.to hF)
def Ebin{op:BinOp}{vx vy u:Value}(c:Cx B N σ Γ Φ a w)(hg:(eqGuard op t x y vx vy).run P w= .ok () w)(hr:(binOp op t vx vy).run P w= .ok u w)(h:∀fr,Cx B N ((d,u)::σ) Γ Φ fr w->wpFrom P ops Q (k+1) fr w)
  (ho:ops[k]? =some ⟨some d,.binOp op t x y yt,ty,pos,af,none⟩:=by rfl)(hd:Nat.blt d N=true:=by rfl)(hx:opd σ x=some vx:=by kernel_rfl)(hy:opd σ y=some vy:=by kernel_rfl):wpFrom P ops Q k a w:=
 MU ho hd c.fr hx hy hg hr λfr hF=>h fr (c.to hF)
def Epk{b:Bool}{p:Operand}{v:Value}(c:Cx B N σ Γ Φ a w)(h:∀fr,Cx B N ((d,v)::σ) Γ Φ fr w->wpFrom P ops Q (k+1) fr w)(ho:ops[k]? =some ⟨some d,.pick p x y,ty,pos,af,none⟩:=by rfl)(hd:Nat.blt d N=true:=by rfl)
  (hc:opd σ p=some (.bool b):=by kernel_rfl)(hv:opd σ (if b then x else y)=some v:=by kernel_rfl):wpFrom P ops Q k a w:=Au ho hd c.fr hc hv λfr hF=>h fr (c.to hF)
theorem Ebx(cs:List Value)(c:Cx B N σ Γ Φ a w)(h:∀b fr w',Cx B N ((d,.pointer (some ⟨b,0,none⟩))::σ) (Γ++[BX b t cs]) Φ fr w'->wpFrom P ops Q (k+1) fr w')(hv:(opd σ x).map (λv=>v.cells.toList)=some cs:=by kernel_rfl)
  (ho:ops[k]? =some ⟨some d,.box t x,ty,pos,af,none⟩:=by rfl)(hd:Nat.blt d N=true:=by rfl):wpFrom P ops Q k a w:=by
 obtain⟨hF,S,F,hM,hs,hf⟩:=c;cases hx:opd σ x with
 |none=>simp_all
 |some v=>
  exact Zec hs hM cs ho hd hF hx ag λb w' S' fr hs' hp hF'=>h b fr w' ⟨hF',S',F,hM.stp hp,Zn (Γ2:=[_]) hs',hf.chg hp.chg λk hk hS=>hM.dj k hS hk⟩
theorem Eal(cs:List Value)(c:Cx B N σ Γ Φ a w)(h:∀b fr w',Cx B N ((d,.pointer (some ⟨b,0,none⟩))::σ) (Γ++[BX b t cs]) Φ fr w'->wpFrom P ops Q (k+1) fr w')(ho:ops[k]? =some ⟨some d,.alloc t,ty,pos,af,none⟩:=by rfl)(hd:Nat.blt d N=true:=by rfl)
  (hz:(P.info? t).map (λi=>i.zero.map λz=>z.cells.toList)=some (some cs):=by kernel_rfl):wpFrom P ops Q k a w:=by
 obtain⟨hF,S,F,hM,hs,hf⟩:=c;cases hi:P.info? t with
 |none=>simp_all
 | some i=>
  rw[hi]at hz;cases hzz:i.zero with
  |none=>simp_all
  |some z=>
   simp only[Ze0,hzz,Option.some.injEq]at hz;exact Zcy (z:=z) hs hM cs ho hd hF ag hz λb w' S' fr hs' hp hF'=>h b fr w' ⟨hF',S',F,hM.stp hp,Zn (Γ2:=[_]) hs',hf.chg hp.chg λk hk hS=>hM.dj k hS hk⟩
def Esb{b bt:Nat}{cs:List Value}(i n:Nat)(u:Value)(c:Cx B N σ Γ Φ a w)(h:∀w',Cx B N σ (Γ.set i (BX b bt (cs.set n u))) Φ a w'->wpFrom P ops Q (k+1) a w')(hi:Γ[i]? =some (BX b bt cs):=by rfl)(ho:ops[k]? =some ⟨none,.store t x y,ty,pos,af,none⟩:=by rfl)
  (hn:Nat.blt n cs.length=true:=by rfl)(h1:u.oneCell'=true:=by rfl)(ht:(P.info? t).map (·.size)=some 1:=by kernel_rfl)(hx:opd σ x=some (.pointer (some ⟨b,n,none⟩)):=by kernel_rfl)(hy:opd σ y=some u:=by kernel_rfl):wpFrom P ops Q k a w:=by
 obtain⟨hF,S,F,hM,hs,hf⟩:=c;exact DC i hs hM hi (cs.set n u) ho hF hx hy ht hn h1 rfl λw' S' hs' hp hF'=>h w' ⟨hF',S',F,hM.stp hp,hs',hf.chg hp.chg λk hk hS=>hM.dj k hS hk⟩
theorem Ess{b bt:Nat}{cs:List Value}(i:Nat)(cs':List Value)(c:Cx B N σ Γ Φ a w)(h:∀w',Cx B N σ (Γ.set i (BX b bt cs')) Φ a w'->wpFrom P ops Q (k+1) a w')(hi:Γ[i]? =some (BX b bt cs):=by rfl)(ho:ops[k]? =some ⟨none,.store t x y,ty,pos,af,none⟩:=by rfl)
  (hl:cs'.length=cs.length:=by rfl)(h1:(cs'.all λz=>z.oneCell')=true:=by rfl)(ht:(P.info? t).map (·.size)=some cs'.length:=by kernel_rfl)(hx:opd σ x=some (.pointer (some ⟨b,0,none⟩)):=by kernel_rfl)(hy:(opd σ y).map (λv=>v.cells.toList)=some cs':=by kernel_rfl):wpFrom P ops Q k a w:=by
 obtain⟨hF,S,F,hM,hs,hf⟩:=c;cases hx':opd σ y with
 |none=>simp_all
 |some v=>
  exact GK i hs hM hi cs' ho hF hx hx' ht hl ag h1 λw' S' hs' hp hF'=>h w' ⟨hF',S',F,hM.stp hp,hs',hf.chg hp.chg λk hk hS=>hM.dj k hS hk⟩
section
variable{α:Type}{E:TypeId}{v:Value}{l m r:List α}
def Eel[Flat α]{n:Int}{q:α}(c:Cx B N σ Γ Φ a w)(hl:Ava Γ Φ w (RO v l))(hz:get? l n=some q)(h:∀p fr,Cx B N ((d2,Rep.val α (Flat.enc q))::(d,p)::σ) Γ Φ fr w->wpFrom P ops Q (k+2) fr w)
  (ho:ops[k]? =some ⟨some d,.indexAddr t x y,ty,pos,af,none⟩:=by rfl)(ho':ops[k+1]? =some ⟨some d2,.load t' (.tmp d),ty',pos',af',none⟩:=by rfl)(hd:Nat.blt d N=true:=by rfl)(hd':Nat.blt d2 N=true:=by rfl)
  (he:Ty P t' α:=by constructor<;>kernel_rfl)(ht:P.underlying t=some (.slice t'):=by kernel_rfl)(hx:opd σ x=some v:=by kernel_rfl)(hy:numOf (opd σ y)=some n:=by kernel_rfl):wpFrom P ops Q k a w:=by
 obtain⟨F,hl⟩:=c.use hl;obtain⟨kd,hy⟩:=Yl hy;exact Zdc _ he ht ho ho' rfl hd hd' c.fr hx hl hy (get?_nn hz) (get?_at hz) rfl λp fr hF=>h p fr (c.to hF)
def Eem[Rep α]{n:Int}{q:α}(c:Cx B N σ Γ Φ a w)(hl:Ava [] Φ w (RO v l))(hz:get? l n=some q)(h:∀p u fr,Cx B N ((d2,u)::(d,p)::σ) Γ (Φ++[RO u q]) fr w->wpFrom P ops Q (k+2) fr w)
  (ho:ops[k]? =some ⟨some d,.indexAddr t x y,ty,pos,af,none⟩:=by rfl)(ho':ops[k+1]? =some ⟨some d2,.load t' (.tmp d),ty',pos',af',none⟩:=by rfl)(hd:Nat.blt d N=true:=by rfl)(hd':Nat.blt d2 N=true:=by rfl)
  (he:Ty P t' α:=by constructor<;>kernel_rfl)(ht:P.underlying t=some (.slice t'):=by kernel_rfl)(hx:opd σ x=some v:=by kernel_rfl)(hy:numOf (opd σ y)=some n:=by kernel_rfl):wpFrom P ops Q k a w:=by
 obtain⟨hF,S,F,hM,hs,hf⟩:=c;obtain⟨kd,hy⟩:=Yl hy;have hl':=hl Non F (Sep.nil w Non) hf;exact Za9 he ht ho ho' rfl hd hd' hF hx hl' hy (get?_nn hz) (get?_at hz) λp u fr hr hF'=>h p u fr ⟨hF',S,F,hM,hs,hf.add (RV.sub hr λ_ _ h=>h.elim id λh=>h.elim)⟩
theorem Eef[Rep α]{n:Int}{q:α}{u:Value}{fl off:Nat}(c:Cx B N σ Γ Φ a w)(hl:Ava Γ Φ w (RO v l))(hz:get? l n=some q)(hu:∀{w:World}{F:Nat->Prop}{cs:List Value},Rep.ok w F cs q->cs[off]? =some u)
  (h:∀p p2 fr,Cx B N ((d3,u)::(d2,p2)::(d,p)::σ) Γ Φ fr w->wpFrom P ops Q (k+3) fr w)
  (ho:ops[k]? =some ⟨some d,.indexAddr t x y,ty,pos,af,none⟩:=by rfl)(ho2:ops[k+1]? =some ⟨some d2,.fieldAddr s' (.tmp d) fl,ty2,pos2,af2,none⟩:=by rfl)(ho':ops[k+2]? =some ⟨some d3,.load t' (.tmp d2),ty',pos',af',none⟩:=by rfl)
  (hd:Nat.blt d N=true:=by rfl)(hd2:Nat.blt d2 N=true:=by rfl)(hd3:Nat.blt d3 N=true:=by rfl)(he:Ty P s' α:=by constructor<;>kernel_rfl)(ht:P.underlying t=some (.slice s'):=by kernel_rfl)(hT:Ty P t' Int:=by constructor<;>kernel_rfl)
  (hoff:fieldOff P s' fl=some off:=by kernel_rfl)(hx:opd σ x=some v:=by kernel_rfl)(hy:numOf (opd σ y)=some n:=by kernel_rfl):wpFrom P ops Q k a w:=by
 obtain⟨F,hl⟩:=c.use hl;obtain⟨kd,hy⟩:=Yl hy;refine Zu c.fr ho rfl rfl (Ze4.mp hd) (QE rfl ht he (Zd c.fr hx) hl (Zd c.fr hy) (get?_nn hz) (get?_at hz)) λp w1 fr1 hpw hF1=>?_;obtain⟨⟨ad,cs,rfl,hFb,hok,hc⟩,rfl⟩:=hpw;have hp1:=hF1.get d (.pointer (some ad)) U
 refine Zu hF1 ho2 rfl rfl (Ze4.mp hd2) (R:=λp w2=>p= .pointer (some (ad.add off))/\w1=w2) (Zh (Pz (P:=P) (ρ:=λy=>match y with|.tmp s=>if s=d then some (.pointer (some ad))else none|_=>none) (λy z hy=>by
  grind) aX w1) ⟨rfl,rfl⟩) λp2 w2 fr2 hp2 hF2=>?_
 obtain⟨rfl,rfl⟩:=hp2;have hc1:Cells w1 (ad.add off) [u]:=λj q' hq=>by
  cases j with
  |zero=>
   simp only[Zfs,Option.some.injEq]at hq;subst hq;exact hc off u (hu hok)
  |succ j=>simp at hq
 refine Zu hF2 ho' rfl rfl (Ze4.mp hd3) (R:=λz w3=>z=u/\w1=w3) (Zh (v:=u) (w':=w1) ?_ ⟨rfl,rfl⟩) λz w3 fr3 hz3 hF3=>?_
 ·have hd1:=hF2.get d2 (.pointer (some (ad.add off))) U;have:=YO hT (cs:=[u]) rfl hc1;have hv:Rep.val Int [u]=u:=rfl;simp_all[execOp,Instr.loadAt,Instr.sureAddr]
 ·obtain⟨rfl,rfl⟩:=hz3;exact h _ _ fr3 (c.to hF3)
theorem Esl[Rep α]{lo hi:Option Operand}{m n:Int}(E:TypeId)(c:Cx B N σ Γ Φ a w)(hl:Ava [] Φ w (RO v l))(hr:cut? l m n=some r)(h:∀u fr,Cx B N ((d,u)::σ) Γ (Φ++[RO u r]) fr w->wpFrom P ops Q (k+1) fr w)
  (ho:ops[k]? =some ⟨some d,.slice t x lo hi none,ty,pos,af,none⟩:=by rfl)(hd:Nat.blt d N=true:=by rfl)(he:Ty P E α:=by constructor<;>kernel_rfl)(ht:P.underlying t=some (.slice E):=by kernel_rfl)(hx:opd σ x=some v:=by kernel_rfl)
  (hlo:(match lo with|none=>some 0|some y=>numOf (opd σ y))=some m:=by kernel_rfl)(hhi:(match hi with|none=>some (len l)|some y=>numOf (opd σ y))=some n:=by kernel_rfl):wpFrom P ops Q k a w:=by
 obtain⟨hF,S,F,hM,hs,hf⟩:=c;have hl':=hl Non F (Sep.nil w Non) hf;refine Zdb he ht ho hd hF hx hl' (m:=m) (n:=n) ?_ ?_ hr λu fr hr hF'=>h u fr ⟨hF',S,F,hM,hs,hf.add (RV.sub hr λ_ _ h=>h.elim id λh=>h.elim)⟩
 ·grind[Option.some.inj,Yl]
 ·cases hi with
  |none=>exact(Option.some.inj hhi).symm
  |some y=>simp_all[Yl]
end
section
variable{α:Type}[Flat α]{E:TypeId}{v u:Value}{l m r:List α}
def Eset{n:Int}{q:α}(i:Nat)(c:Cx B N σ Γ Φ a w)(hr:set? l n q=some r)(h:∀p fr w',Cx B N ((d,p)::σ) (Γ.set i (SL E v r)) Φ fr w'->wpFrom P ops Q (k+2) fr w')(hi:Γ[i]? =some (SL E v l):=by rfl)
  (ho:ops[k]? =some ⟨some d,.indexAddr t x y,ty,pos,af,none⟩:=by rfl)(ho':ops[k+1]? =some ⟨none,.store t' (.tmp d) z,ty',pos',af',none⟩:=by rfl)(hte:t'=E:=by rfl)(hd:Nat.blt d N=true:=by rfl)(hz:z≠ .tmp d:=by simp)
  (he:Ty P E α:=by constructor<;>kernel_rfl)(ht:P.underlying t=some (.slice E):=by kernel_rfl)(hx:opd σ x=some v:=by kernel_rfl)(hy:numOf (opd σ y)=some n:=by kernel_rfl)(hq:opd σ z=some (Rep.val α (Flat.enc q)):=by kernel_rfl):wpFrom P ops Q k a w:=by
 obtain⟨hF,S,F,hM,hs,hf⟩:=c;obtain⟨kd,hy⟩:=Yl hy;exact ZdR i hs hM hi ht he ho ho' hte hd hF hx hy hz hq rfl hr λw' S' fr p hs' hp hF'=>h p fr w' ⟨hF',S',F,hM.stp hp,hs',hf.chg hp.chg λk hk hS=>hM.dj k hS hk⟩
def Esf{n:Int}{q q':α}{fl off:Nat}(i:Nat)(u:Value)(c:Cx B N σ Γ Φ a w)(hq:get? l n=some q)(hr:set? l n q'=some r)(h:∀p p2 fr w',Cx B N ((d2,p2)::(d,p)::σ) (Γ.set i (SL E v r)) Φ fr w'->wpFrom P ops Q (k+3) fr w')(hi:Γ[i]? =some (SL E v l):=by rfl)
  (hop:ops[k]? =some ⟨some d,.indexAddr t x y,ty,pos,af,none⟩:=by rfl)(hop2:ops[k+1]? =some ⟨some d2,.fieldAddr s' (.tmp d) fl,ty2,pos2,af2,none⟩:=by rfl)(hop':ops[k+2]? =some ⟨none,.store t' (.tmp d2) z,ty',pos',af',none⟩:=by rfl)
  (hd:Nat.blt d N=true:=by rfl)(hd2:Nat.blt d2 N=true:=by rfl)(hz:(match z with|.tmp s=>s !=d&&s !=d2|_=>true)=true:=by rfl)(hoff:fieldOff P s' fl=some off:=by rfl)(hlt:Nat.blt off (Rep.sz α)=true:=by rfl)(h1:u.oneCell'=true:=by rfl)
  (hu:Flat.enc q'=(Flat.enc q).set off u:=by rfl)(he:Ty P E α:=by constructor<;>kernel_rfl)(ht:P.underlying t=some (.slice E):=by kernel_rfl)(hT:(P.info? t').map (·.size)=some 1:=by kernel_rfl)
  (hx:opd σ x=some v:=by kernel_rfl)(hy:numOf (opd σ y)=some n:=by kernel_rfl)(hzu:opd σ z=some u:=by kernel_rfl):wpFrom P ops Q k a w:=by
 obtain⟨hF,S,F,hM,hs,hf⟩:=c;obtain⟨kd,hy⟩:=Yl hy;exact EK i hs hM hi ht he hop hop2 hop' hd hd2 hF hx hy hz hzu hoff hlt hT h1 hq hu hr λw' S' fr p p2 hs' hp hF'=>h p p2 fr w' ⟨hF',S',F,hM.stp hp,hs',hf.chg hp.chg λk hk hS=>hM.dj k hS hk⟩
def Emk{n:Int}{zc:α}(E:TypeId)(c:Cx B N σ Γ Φ a w)(hr:mk? n zc=some r)(h:∀a' c' fr w',Cx B N ((d,.slice a' (List.length r) c')::σ) (Γ++[SL E (.slice a' (List.length r) c') r]) Φ fr w'->wpFrom P ops Q (k+1) fr w')
  (ho:ops[k]? =some ⟨some d,.makeSlice t x y,ty,pos,af,none⟩:=by rfl)(hd:Nat.blt d N=true:=by rfl)(he:ElT P E α:=by refine elT ?_;kernel_rfl)(ht:P.underlying t=some (.slice E):=by kernel_rfl)
  (hz:(P.info? E).map (λi=>i.zero.map λz=>z.cells.toList)=some (some (Flat.enc zc)):=by kernel_rfl)(hx:opd σ x=some (.int .i64 n):=by kernel_rfl)(hy:opd σ y=some (.int .i64 n):=by kernel_rfl):wpFrom P ops Q k a w:=by
 obtain⟨hF,S,F,hM,hs,hf⟩:=c;exact Zd4 hs hM ht he (Aw _ hz) ho hd hF hx hy hr λa' c' w' S' fr hs' hp hF'=>h a' c' fr w' ⟨hF',S',F,hM.stp hp,Zn (Γ2:=[_]) hs',hf.chg hp.chg λk hk hS=>hM.dj k hS hk⟩
def Elt{n:Nat}{parts:Array (Nat×Operand)}(E:TypeId)(l:List α)(c:Cx B N σ Γ Φ a w)(h:∀a' c' fr w',Cx B N ((d,.slice a' (List.length l) c')::σ) (Γ++[SL E (.slice a' (List.length l) c') l]) Φ fr w'->wpFrom P ops Q (k+1) fr w')
  (ho:ops[k]? =some ⟨some d,.buildSlice t n parts,ty,pos,af,none⟩:=by rfl)(hd:Nat.blt d N=true:=by rfl)(hln:l.length=n:=by rfl)(hmax:Nat.ble l.length room=true:=by rfl)
  (hv:parts.toList.map (λp=>opd σ p.2)=(l.map λx=>Rep.val α (Flat.enc x)).map some:=by kernel_rfl)
  (hrun:∀w,(Instr.buildSlice t n ((parts.toList.map (·.1)).zip (l.map λx=>Rep.val α (Flat.enc x))).toArray).run P w= .ok (.slice (some ⟨w.heap.size,0,none⟩) n n) (w.alloc (.cells (l.map Flat.enc).flatten.toArray E)):=by intro _;kernel_rfl):wpFrom P ops Q k a w:=by
 obtain⟨hF,S,F,hM,hs,hf⟩:=c;exact ZdV hs hM (l.map Flat.enc).flatten (l.map Flat.enc) l ho hd hF _ hv hrun (Qd _) rfl hln hmax λa' c' w' S' fr hs' hp hF'=>h a' c' fr w' ⟨hF',S',F,hM.stp hp,Zn (Γ2:=[_]) hs',hf.chg hp.chg λk hk hS=>hM.dj k hS hk⟩
def Eap(i:Nat)(c:Cx B N σ Γ Φ a w)(hu:Ava Γ Φ w (RO u m))(hr:app? l m=some r)(h:∀a' c' fr w',Cx B N ((d,.slice a' (List.length r) c')::σ) (Γ.set i (SL E (.slice a' (List.length r) c') r)) Φ fr w'->wpFrom P ops Q (k+1) fr w')(hi:Γ[i]? =some (SL E v l):=by rfl)
  (ho:ops[k]? =some ⟨some d,.call ⟨.builtin .append,#[x,y],#[t,t']⟩,ty,pos,af,none⟩:=by rfl)(htt:t'=t:=by rfl)(hd:Nat.blt d N=true:=by rfl)(he:ElT P E α:=by refine elT ?_;kernel_rfl)(ht:P.underlying t=some (.slice E):=by kernel_rfl)
  (hx:opd σ x=some v:=by kernel_rfl)(hy:opd σ y=some u:=by kernel_rfl):wpFrom P ops Q k a w:=by
 obtain⟨F',hu⟩:=c.use hu;obtain⟨hF,S,F,hM,hs,hf⟩:=c;exact ZbY i hs hM hi ht he ho htt hd hF hx hy hu hr λa' c' w' S' fr hs' hp hF'=>h a' c' fr w' ⟨hF',S',F,hM.stp hp,hs',hf.chg hp.chg λk hk hS=>hM.dj k hS hk⟩
def Efr{lo:Option Operand}{hi':Operand}{b:Option Addr}{cp len0:Nat}{n:Int}(i:Nat)(c:Cx B N σ Γ Φ a w)(hr:cut? l 0 n=some r)(h:∀c' fr w',Cx B N ((d,.slice b (List.length r) c')::σ) (Γ.set i (SL E (.slice b (List.length r) c') r)) Φ fr w'->wpFrom P ops Q (k+1) fr w')
  (hi:Γ[i]? =some (SL E (.slice b len0 cp) l):=by rfl)(ho:ops[k]? =some ⟨some d,.slice t x lo (some hi') none,ty,pos,af,none⟩:=by rfl)(hd:Nat.blt d N=true:=by rfl)(he:Ty P E α:=by constructor<;>kernel_rfl)(ht:P.underlying t=some (.slice E):=by kernel_rfl)
  (hx:opd σ x=some (.slice b len0 cp):=by kernel_rfl)(hlo:(match lo with|none=>some 0|some y=>numOf (opd σ y))=some 0:=by kernel_rfl)(hhi:numOf (opd σ hi')=some n:=by kernel_rfl):wpFrom P ops Q k a w:=by
 obtain⟨hF,S,F,hM,hs,hf⟩:=c;obtain⟨kd,hhi⟩:=Yl hhi;exact Zc2 i hs hM hi ht he ho hd hF hx (by grind[Yl]) hhi hr λc' w' S' fr hs' hp hF'=>h c' fr w' ⟨hF',S',F,hM.stp hp,hs',hf.chg hp.chg λk hk hS=>hM.dj k hS hk⟩
end
section
variable{K V:TypeId}{κ β:Type}[Flat κ][Flat β][DecidableEq κ]{T:MapT P K V κ β}{b:Nat}{m:List (κ×β)}
def Emm(T:MapT P K V κ β)(c:Cx B N σ Γ Φ a w)(h:∀b fr w',Cx B N ((d,.map (some b))::σ) (Γ++[MP T b []]) Φ fr w'->wpFrom P ops Q (k+1) fr w')(ho:ops[k]? =some ⟨some d,.makeMap t none,ty,pos,af,none⟩:=by rfl)(hd:Nat.blt d N=true:=by rfl)
  (hm:∀w,(Instr.makeMap t none).run P w= .ok (.map (some w.heap.size)) (w.alloc (.map #[] 0)):=by exact λw=>by simp[Instr.makeMap,run_newObj_alloc]):wpFrom P ops Q k a w:=by
 obtain⟨hF,S,F,hM,hs,hf⟩:=c;exact IA T hs hM hm ho hd hF λb w' S' fr hs' hp hF'=>h b fr w' ⟨hF',S',F,hM.stp hp,Zn (Γ2:=[_]) hs',hf.chg hp.chg λk hk hS=>hM.dj k hS hk⟩
def Emp{q:κ}{e:β}{m':List (κ×β)}{fit:κ->Bool}{efit:β->Bool}(i:Nat)(c:Cx B N σ Γ Φ a w)(hr:mputE? fit efit m q e=some m')(h:∀w',Cx B N σ (Γ.set i (MP T b m')) Φ a w'->wpFrom P ops Q (k+1) a w')(hi:Γ[i]? =some (MP T b m):=by rfl)(hfit:T.fit=fit:=by rfl)(hzz:T.efit=efit:=by rfl)
  (ho:ops[k]? =some ⟨none,.mapUpdate t x y z,ty,pos,af,none⟩:=by rfl)(ht:P.underlying t=some (.map K V):=by kernel_rfl)(hx:opd σ x=some (.map (some b)):=by kernel_rfl)(hy:opd σ y=some (Rep.val κ (Flat.enc q)):=by kernel_rfl)(hz:opd σ z=some (Rep.val β (Flat.enc e)):=by kernel_rfl):wpFrom P ops Q k a w:=by
 obtain⟨hF,S,F,hM,hs,hf⟩:=c;subst hfit;subst hzz;exact KC T i hs hM hi ht ho hF (u:=q) (mputE?_fit hr) e (mputE?_efit hr) (mputE?_len hr) hx hy rfl hz rfl λw' S' hs' hp hF'=>h w' ⟨hF',S',F,hM.stp hp,by grind[mputE?_val],hf.chg hp.chg λk hk hS=>hM.dj k hS hk⟩
def Empb{q:κ}{T:MapT P K V κ Bool}{m m':List (κ×Bool)}{e:Bool}{fit:κ->Bool}(i:Nat)(c:Cx B N σ Γ Φ a w)(hr:mput? fit m q e=some m')(h:∀w',Cx B N σ (Γ.set i (MP T b m')) Φ a w'->wpFrom P ops Q (k+1) a w')(hi:Γ[i]? =some (MP T b m):=by rfl)(hfit:T.fit=fit:=by rfl)(hzz:T.efit=λ_=>true:=by rfl)
  (ho:ops[k]? =some ⟨none,.mapUpdate t x y z,ty,pos,af,none⟩:=by rfl)(ht:P.underlying t=some (.map K V):=by kernel_rfl)(hx:opd σ x=some (.map (some b)):=by kernel_rfl)(hy:opd σ y=some (Rep.val κ (Flat.enc q)):=by kernel_rfl)(hz:opd σ z=some (.bool e):=by kernel_rfl):wpFrom P ops Q k a w:=by
 obtain⟨hF,S,F,hM,hs,hf⟩:=c;subst hfit;exact KC T i hs hM hi ht ho hF (u:=q) (mput?_fit hr) e (by rw[hzz]) (mput?_len hr) hx hy rfl hz rfl λw' S' hs' hp hF'=>h w' ⟨hF',S',F,hM.stp hp,by grind[mput?_val],hf.chg hp.chg λk hk hS=>hM.dj k hS hk⟩
end
end
section
variable{P:Program}{B:Bs}{N:Nat}{σ:List (Nat×Value)}{Γ:List HP}{Φ:List RF}{a a':Act}{w w':World}{Q:Exit->Act->World->Prop}{K:Act->World->Prop}
abbrev Cx.wd(_:Cx B N σ Γ Φ a w):World:=w
def Cx.swap{H H':HP}(i:Nat)(c:Cx B N σ Γ Φ a w)(f:∀A,H.ok w A->H'.ok w A)(hi:Γ[i]? =some H:=by rfl):Cx B N σ (Γ.set i H') Φ a w:=by
 obtain⟨h,S,F,h1,h2,h3⟩:=c;exact⟨h,S,F,h1,h2.swapT i hi f,h3⟩
def Cx.bxe{b t:Nat}{cs cs':List Value}(i:Nat)(c:Cx B N σ Γ Φ a w)(he:cs=cs')(hi:Γ[i]? =some (BX b t cs):=by rfl):Cx B N σ (Γ.set i (BX b t cs')) Φ a w:=c.swap i (λ_ h=>he▸h) hi
def Cx.nilf{α:Type}[Rep α](c:Cx B N σ Γ Φ a w):Cx B N σ Γ (Φ++[RO (.slice none 0 0) ([]:List α)]) a w:=c.add Ava.nil
def Cx.sl{α:Type}[Rep α]{v:Value}{l:List α}(i:Nat)(c:Cx B N σ Γ Φ a w)(hi:Φ[i]? =some (RO v l):=by rfl):∃b cp,v= .slice b l.length cp:=by
 obtain⟨F,h⟩:=c.use (Ava.f i hi);obtain⟨b,cp,h,_⟩:=RV.slice h;simp_all
def Cx.flat{L:List HP}(i:Nat)(c:Cx B N σ Γ Φ a w)(hi:Γ[i]? =some (HP.sep L):=by rfl):Cx B N σ (rest [i] Γ++L) Φ a w:=c.gam λS h=>by
 have:=h.part [i] (Γ1:=[HP.sep L]) aH U;simp_all[Zn,Sep.flat]
def Cx.fzd{ρ α:Type}[Flat ρ][Rep α]{own:ρ->α->HP}{E:TypeId}{v:Value}{rs:List ρ}{xs:List α}(ho:Owns own)(i j:Nat)(c:Cx B N σ Γ Φ a w)(hi:Γ[i]? =some (SL E v rs):=by rfl)(hj:Γ[j]? =some (HP.all own rs xs):=by rfl)(hne:[i,j].Nodup:=by decide):
  Cx B N σ (rest [i,j] Γ) (Φ++[RO v xs]) a w:=by
 obtain⟨h,S,F,h1,h2,h3⟩:=c;have hp:=h2.part [i,j] (Γ1:=[SL E v rs,HP.all own rs xs]) aN hne;obtain⟨S',F',hM,hs,hr,hfz⟩:=Sep.freezeD (L:=rest [i,j] Γ) ho hp h1;exact⟨h,S',F',hM,hs,(h3.sub λk _ hk=>hfz k hk).add hr⟩
def Cx.relend{ρ α:Type}[Flat ρ]{own:ρ->α->HP}{E:TypeId}{b:Option Addr}{n cp:Nat}{rs:List ρ}{xs:List α}(i j:Nat)(c:Cx B N σ Γ Φ a w)(hi:Γ[i]? =some (SL E (.slice b n cp) rs):=by rfl)(hj:Γ[j]? =some (HP.all own rs xs):=by rfl):
  n=xs.length/\Cx B N σ (Γ.set i (SL E (.slice b xs.length cp) rs)) Φ a w:=by
 obtain⟨h,S,F,h1,h2,h3⟩:=c;obtain⟨he,hs⟩:=Sep.relenD i j h2 hi hj;exact⟨he,h,S,F,h1,hs,h3⟩
def If{x y:Code}{o:Operand}{b:Bool}(c:Cx B N σ Γ Φ a w)(ht:b=true->x.wp P Q a w)(hf:b=false->y.wp P Q a w)(hb:opd σ o=some (.bool b):=by kernel_rfl):(Code.cond o x y).wp P Q a w:=Bw c.fr hb ht hf
def Rh{ops:Array Oper}(f:Nat)(h:RA P (hoist f ops) Q a w)(hb:hoistB f ops=true:=by kernel_rfl)(hQ:∀c a d v w,Q (.panic c) (Act.put a (some d) v) w->Q (.panic c) a w:=by exact λ_ _ _ _ _ h=>h):RA P ops Q a w:=ZbL f hb hQ h
def Rhs{ops:Array Oper}(is:List Nat)(c:Cx B N σ Γ Φ a w)(n:Nat)(h:RA P (hoistAll is ops) Q a w)(hn:ops.size=n+is.length:=by rfl)(hns:Region.noSelect ops=true:=by kernel_rfl)(ht:takesB ops (Array.replicate ops.size false) is=true:=by kernel_rfl)
  (hH:takesB (hoistAll is ops) (Array.replicate ops.size false) is=true:=by kernel_rfl)(hq:quietS P N ops is σ=true:=by kernel_rfl)(hl:(is.all λf=>(is.foldl (λL i=>L.setIfInBounds i true) (Array.replicate ops.size false)).getD f false)=true:=by kernel_rfl)
  (hQ:∀c a d v w,Q (.panic c) (Act.put a (some d) v) w->Q (.panic c) a w:=by exact λ_ _ _ _ _ h=>h):RA P ops Q a w:=AB is c.fr n hn hns ht hH hq hl hQ h
def As{id:Nat}{l:List Oper}(hmix:P.follows .mixedOrders=true)(c:Cx B N σ Γ Φ a w)(h:∀w',Cx B N σ Γ Φ a w'->wpAny P .any l.toArray Q l.toArray.size (Array.replicate l.toArray.size false) a w'):(Code.region id l.toArray true).wp P Q a w:=
 Am hmix λw' hc=>h w' (c.ext hc)
def Gt{l:List Oper}{k g t:Nat}{want:Bool}{o og:Oper}(c:Cx B N σ Γ Φ a w)(h:wpFrom P (l.set k {o with guard:=none}).toArray Q k a w)(ho:l[k]? =some o:=by rfl)(hg:o.guard=some (g,want):=by rfl)(hog:l[g]? =some og:=by rfl)(ht:og.dst=some t:=by rfl)
  (htN:Nat.blt t N=true:=by rfl)(hv:opd σ (.tmp t)=some (.bool want):=by kernel_rfl):wpFrom P l.toArray Q k a w:=Dl c.fr ho hg hog ht htN hv h
def Gs{ops:Array Oper}{k g t d:Nat}{want:Bool}{o og:Oper}(c:Cx B N σ Γ Φ a w)(h:∀fr,Cx B N ((d,undef)::σ) Γ Φ fr w->wpFrom P ops Q (k+1) fr w)(ho:ops[k]? =some o:=by rfl)(hg:o.guard=some (g,want):=by rfl)(hog:ops[g]? =some og:=by rfl)
  (ht:og.dst=some t:=by rfl)(hd:o.dst=some d:=by rfl)(htN:Nat.blt t N=true:=by rfl)(hdN:Nat.blt d N=true:=by rfl)(hv:opd σ (.tmp t)=some (.bool (!want)):=by kernel_rfl):wpFrom P ops Q k a w:=
 BR c.fr ho hg hog ht htN hv U hd hdN λfr hF=>h fr (c.to hF)
def pureC(P:Program)(N:Nat)(σ:List (Nat×Value)):Code->Option (List (Nat×Value))
 |.skip=>some σ
 |.region _ ops false=>seqV P N ops.toList σ
 |_=>none
def dstC:Code->List Nat
 |.region _ ops _=>ops.toList.filterMap (·.dst)
 |_=>[]
theorem LW{t:Nat}:∀{l:List Oper}{σ σ':List (Nat×Value)},seqV P N l σ=some σ'->t∉l.filterMap (·.dst)->σ'.lookup t=σ.lookup t
 |[],σ,σ',h,_=>by simp_all[seqV,Option.some.injEq]
 | o::l,σ,σ',h,ht=>by
  unfold seqV at h;split at h
  ·rename_i d v hg hd hv;split at h
   ·rw[List.filterMap_cons,hd]at ht;have h1:=LW h λhm=>ht (ZeB _ hm);grind
   ·cases h
  ·cases h
theorem UO{t:Nat}{v:Value}:∀{τ σ:List (Nat×Value)},(τ++σ).lookup t=some v->(t,v)∈τ\/σ.lookup t=some v
 |[],_,h=>.inr h
 | (k,u)::τ,σ,h=>by
  rw[List.cons_append,ZeG]at h;by_cases e:t=k
  ·simp_all
  ·have:(t==k)=false:=by simpa using e
   rw[this]at h;exact(UO h).imp (ZeB _) id
theorem FV{x:Code}{τ:List (Nat×Value)}{D:List Nat}(hF:FrS N σ a)(h:(pureC P N σ x).map (λs=>τ.map λp=>s.lookup p.1)=some (τ.map λp=>some p.2))(hD:((dstC x).all (memN D))=true):
  x.wp P (λe a' w'=>e= .normal/\w'=w/\FrS N (τ++σ.filter λp=>!memN D p.1) a') a w:=by
 have fin:∀(s:List (Nat×Value))(a':Act),FrS N s a'->(∀p∈τ,s.lookup p.1=some p.2)->(∀t,memN D t=false->s.lookup t=σ.lookup t)->FrS N (τ++σ.filter λp=>!memN D p.1) a':=λs a' hs h1 h2=>
  ⟨hs.defers,hs.size,λt v hv=>by
   rcases UO hv with hv|hv
   ·exact hs.get t v (h1 _ hv)
   ·obtain⟨g1,g2⟩:=Tv (f:=λk=> !memN D k) hv
    exact hs.get t v ag⟩
 cases x with
 |skip=>
  simp only[pureC,Ze0,Option.some.injEq]at h;exact wp_skip ⟨rfl,rfl,fin σ a hF (λp hp=>ZeY.1 h p hp) λ_ _=>rfl⟩
 | region id ops draw=>
  cases draw with
  |true=>simp_all[pureC]
  | false=>
   simp only[pureC]at h;cases hq:seqV P N ops.toList σ with
   |none=>simp_all
   |some s=>
    rw[hq]at h;simp only[Ze0,Option.some.injEq]at h;refine Gv ?_;unfold wpFrom;rw[Zfr,<-ZeM ops.toList];refine Iy hF hq λa' hF'=>wpList_nil ⟨rfl,rfl,fin s a' hF' (λp hp=>ZeY.1 h p hp) λt ht=>LW hq λhm=>?_⟩;grind[List.all_eq_true,dstC]
 |_=>simp_all[pureC]
def Mp{x y:Code}{o:Operand}(b:Bool)(τ1 τ2 τ:List (Nat×Value))(D:List Nat)(c:Cx B N σ Γ Φ a w)(h:∀fr,Cx B N (τ++σ.filter λp=>!memN D p.1) Γ Φ fr w->K fr w)(hb:opd σ o=some (.bool b):=by kernel_rfl)
  (h1:(pureC P N σ x).map (λs=>τ1.map λp=>s.lookup p.1)=some (τ1.map λp=>some p.2):=by kernel_rfl)(h2:(pureC P N σ y).map (λs=>τ2.map λp=>s.lookup p.1)=some (τ2.map λp=>some p.2):=by kernel_rfl)
  (hx:((dstC x).all (memN D))=true:=by kernel_rfl)(hy:((dstC y).all (memN D))=true:=by kernel_rfl)(e1:b=true->τ1=τ:=by intro hb;first|rfl|(simp only[hb];done)|(simp only[hb];rfl)|(simp[hb];done))
  (e2:b=false->τ2=τ:=by intro hb;first|rfl|(simp only[hb];done)|(simp only[hb];rfl)|(simp[hb];done)):(Code.cond o x y).wp P (Exit.then K Q) a w:=
 ZaU (τ++σ.filter λp=>!memN D p.1) c.fr hb (λhb=>by rw[<-e1 hb];exact FV c.fr h1 hx) (λhb=>by rw[<-e2 hb];exact FV c.fr h2 hy) λa' hF=>Po (h a' (c.to hF))
def Ry{id:Nat}{ops:Array Oper}{draw:Bool}(hs:List (Nat×Nat))(hmix:P.follows .mixedOrders=true)(c:Cx B N σ Γ Φ a w)
  (h:∀fr w',Cx B N (outS ops σ (pdsM P (bxsOf Γ Φ) hs ops σ [] ops.size) ops.size) Γ Φ fr w'->K fr w')
  (hst:(stat draw (cond draw (masksN ops ops.size) []) ops [] N&&statG ops (pdsM P (bxsOf Γ Φ) hs ops σ [] ops.size) [])=true:=by kernel_rfl)
  (h1:(freeI [] ops.size).map (λj=>(pureB P (bxsOf Γ Φ) hs ops σ (pdsM P (bxsOf Γ Φ) hs ops σ [] ops.size) j).map (·.1))=(freeI [] ops.size).map λj=>((pdsM P (bxsOf Γ Φ) hs ops σ [] ops.size).getD j .any).val?:=by kernel_rfl)
  (h2:((freeI [] ops.size).all λj=>((pdsM P (bxsOf Γ Φ) hs ops σ [] ops.size).getD j .any).val?.isSome)=true:=by kernel_rfl)
  (h3:(freeI [] ops.size).map (λj=>(pureB P (bxsOf Γ Φ) hs ops σ (pdsM P (bxsOf Γ Φ) hs ops σ [] ops.size) j).map λr=>r.2.map (·.1))=(freeI [] ops.size).map λj=>(pureB P (bxsOf Γ Φ) hs ops σ (pdsM P (bxsOf Γ Φ) hs ops σ [] ops.size) j).map λr=>r.2.map (·.2):=by kernel_rfl):
  (Code.region id ops draw).wp P (Exit.then K Q) a w:=Rz [] hs hmix c trivial (λ_=>trivial) h hst h1 h2 h3
def Pd.el{α:Type}[Rep α](x:α):Pd:=.is λv w=>ElemP w (λ_=>True) v x
def elM{α:Type}[Rep α]{x:α}:(Pd.el x).Mono Non:=JL
def elO{α:Type}[Rep α]{x:α}:(Pd.el x).MonoO:=Pd.monoO_is JL
def atN{bx:Bxs}{hs:List (Nat×Nat)}{ops:Array Oper}{np:List (Nat×Pd)}{m:Nat}{p:Pd}(j:Nat)(hp:np.lookup j=some p:=by rfl)(hj:Nat.blt j m=true:=by rfl):(pdsM P bx hs ops σ np m).getD j .any=p:=SQ (Ze4.mp hj) hp
def atM{bx:Bxs}{hs:List (Nat×Nat)}{ops:Array Oper}{np:List (Nat×Pd)}{m:Nat}{p:Pd}{ow:Nat->Nat}(j:Nat)(hp:np.lookup j=some p:=by rfl)(hj:Nat.blt j m=true:=by rfl):(instL ow (pdsM P bx hs ops σ np m)).getD j .any=p.inst ow:=by
 rw[XB,SQ (Ze4.mp hj) hp]
def ndN:List Nat->Bool
 |[]=>true
 |x::l=>!(memN l x)&&ndN l
theorem PX:∀{l:List Nat},ndN l=true->l.Nodup
 |[],_=>Zgz
 |x::l,h=>by
  unfold ndN at h;rw[Zek,Zfp,Lu]at h;exact Zgg.2 ⟨λhm=>by simp_all,PX h.2⟩
theorem Cx.newt{σ0:List (Nat×Value)}{a0:Act}{w0:World}{ow:Nat->Nat}(c0:Cx B N σ0 Γ Φ a0 w0)(hc:Chg Non w0 w)(c:Cx B N σ Γ Φ a w)(l:List (Nat×Nat×Value×HP))
  (h:AllP (λp=>a.eval (.tmp p.2.1)=p.2.2.1/\p.2.2.2.ok w (λk=>w0.heap.size<=k/\k<w.heap.size/\ow k=p.1)) l)(hnd:ndN (l.map (·.1))=true:=by rfl):Cx B N (l.map (λp=>(p.2.1,p.2.2.1))++σ) (Γ++l.map (·.2.2.2)) Φ a w:=by
 have hn:=PX hnd;clear hnd;obtain⟨_,S,F,hM,hs,hf⟩:=c0
 have hN:=sepO (w0:=w0) (ow:=ow) (l.map λp=>(p.1,p.2.2.2)) an (by
  induction l with
  |nil=>trivial
  |cons p l ih=>exact⟨h.1.2,ih h.2 ag⟩) rfl
 obtain⟨S',hp,hs'⟩:=hs.got hM (Zda hc) hN;refine⟨⟨c.fr.defers,c.fr.size,λt v hv=>?_⟩,S',F,hM.stp hp,?_,hf.chg hp.chg λk hk hS=>hM.dj k hS hk⟩
 ·rcases UO hv with hv|hv
  ·obtain⟨p,hp,he⟩:=Zfz.1 hv;obtain⟨rfl,rfl⟩:=he;exact(h.mem hp).1
  ·exact c.fr.get t v hv
 simp_all[Zn,List.map_map,Function.comp_def]
end
section
variable{P:Program}{B:Bs}{N:Nat}{σ:List (Nat×Value)}{Γ:List HP}{Φ Φ1:List RF}{a:Act}{w:World}{Q:Exit->Act->World->Prop}
  {draw:Bool}{ms:List Nat}{ops:Array Oper}{pds:List Pd}{j d:Nat}{dst:Option Tmp}{g:Option (Nat×Bool)}{t ty yt:TypeId}{x y:Operand}{pos:String}{af:Array Edge}{ow:Nat->Nat}
theorem gcT{g':Nat}{b:Bool}(hg:gc ops pds ops.size j)(hgd:guardOf ops j=some (g',true):=by rfl)(hn:∃n,ops.size=n+1:=by exact⟨_,rfl⟩)(hp:(pds.getD g' .any).val? =some (.bool b):=by kernel_rfl):b=true:=by
 obtain⟨n,hn⟩:=hn;unfold gc at hg;cases hq:pds.getD g' .any with
 |eq v=>
  simp_all[Pd.val?,Option.some.injEq,Pd.boolIs]
 |_=>rw[hq]at hp;cases hp
theorem gcF{g':Nat}{b:Bool}(hg:gc ops pds ops.size j)(hgd:guardOf ops j=some (g',false):=by rfl)(hn:∃n,ops.size=n+1:=by exact⟨_,rfl⟩)(hp:(pds.getD g' .any).val? =some (.bool b):=by kernel_rfl):b=false:=by
 obtain⟨n,hn⟩:=hn;unfold gc at hg;cases hq:pds.getD g' .any with
 |eq v=>
  simp_all[Pd.val?,Option.some.injEq,Pd.boolIs]
 |_=>rw[hq]at hp;cases hp
def Nix{s:Str}{n r:Int}(c:Cx B N σ Γ Φ a w)(hz:gc ops pds ops.size j->sidx? s n=some r)(ho:ops[j]? =some ⟨dst,.index t x y,ty,pos,af,g⟩:=by rfl)(ht:P.underlying t=some .string:=by kernel_rfl)
  (hx:envP ops σ pds j x=some s.val:=by kernel_rfl)(hy:numOf (envP ops σ pds j y)=some n:=by kernel_rfl)(hG:Good ops pds [])(hpd:pds.getD j .any= .eq (.int .u8 r)):NPB P draw ms ops pds a w Q j:=by
 obtain⟨kd,hy⟩:=Yl hy;exact Hw hG c.fr ht ho hx hy hz hpd
def Ncat{s1 s2 s3:Str}(c:Cx B N σ Γ Φ a w)(hz:gc ops pds ops.size j->cat? s1 s2=some s3)(ho:ops[j]? =some ⟨dst,.binOp .add t x y yt,ty,pos,af,g⟩:=by rfl)
  (hx:envP ops σ pds j x=some s1.val:=by kernel_rfl)(hy:envP ops σ pds j y=some s2.val:=by kernel_rfl)(hG:Good ops pds [])(hpd:pds.getD j .any= .eq s3.val):NPB P draw ms ops pds a w Q j:=Zd0 hG c.fr ho hx hy hz hpd
def Nshl{m n r:Int}(c:Cx B N σ Γ Φ a w)(hz:gc ops pds ops.size j->shl? m n=some r)(ho:ops[j]? =some ⟨dst,.binOp .shl t x y yt,ty,pos,af,g⟩:=by rfl)
  (hx:envP ops σ pds j x=some (.int .i64 m):=by kernel_rfl)(hy:numOf (envP ops σ pds j y)=some n:=by kernel_rfl)(hG:Good ops pds [])(hpd:pds.getD j .any= .eq (.int .i64 r)):NPB P draw ms ops pds a w Q j:=by
 obtain⟨kd,hy⟩:=Yl hy;exact ZdD hG c.fr ho hx hy hz hpd
def Nid{α:Type}[Rep α]{e:TypeId}{v:Value}{l:List α}{n:Int}{q:α}(c:Cx B N σ Γ Φ a w)(hl:Ava Γ Φ w (RO v l))(hz:gc ops pds ops.size j->get? l n=some q)(ho:ops[j]? =some ⟨dst,.indexAddr t x y,ty,pos,af,g⟩:=by rfl)(ht:P.underlying t=some (.slice e):=by rfl)(he:Ty P e α:=by constructor<;>kernel_rfl)(hx:envP ops σ pds j x=some v:=by kernel_rfl)(hy:numOf (envP ops σ pds j y)=some n:=by kernel_rfl)(hG:Good ops pds [])(hpd:pds.getD j .any= .is λv w=>ElemP w (λ_=>True) v q):NPB P draw ms ops pds a w Q j:=by
 obtain⟨F,hl⟩:=c.use hl;obtain⟨kd,hy⟩:=Yl hy;exact Zb3 hG c.fr he ht ho hx (RV.any hl) hy hpd λhg=>⟨get?_nn (hz hg),get?_at (hz hg)⟩
def Nld{α:Type}[Flat α]{s:Nat}{q:α}{u:Value}(c:Cx B N σ Γ Φ a w)(i:Nat)(hpi:pds.getD i .any= .is λv w=>ElemP w (λ_=>True) v q)(ho:ops[j]? =some ⟨dst,.load t (.tmp s),ty,pos,af,g⟩:=by rfl)
  (hj:Nat.blt j ops.size=true:=by rfl)(hl:lastW ops s j=some i:=by rfl)(hok:okG ops ops.size j i=true:=by rfl)(hu:Rep.val α (Flat.enc q)=u:=by rfl)(ht:Ty P t α:=by constructor<;>kernel_rfl)(hG:Good ops pds [])(hpd:pds.getD j .any= .eq u):NPB P draw ms ops pds a w Q j:=
 Zbp hG c.fr ht ho hj hl hok hpi hpd hu
def Ncl{args:List Value}{f:FuncId}{xs:Array Operand}{ts:Array TypeId}{vs:List Value}{u:Value}(c:Cx B N σ Γ Φ a w)(hcon:gc ops pds ops.size j->Con P f args [] Φ1 λ(_:Unit)=>(vs,[],[]))(ro:AvaL Γ Φ w Φ1)
  (hf:∀(args:Array Value)(w:World),(callFunc f args).run P w= .ok (.enter f args) w)(hv:Go.GL.tup vs=u:=by rfl)(ho:ops[j]? =some ⟨dst,.call ⟨.value (.func f),xs,ts⟩,ty,pos,af,g⟩:=by rfl)
  (hargs:xs.toList.map (envP ops σ pds j)=args.map some:=by kernel_rfl)(hG:Good ops pds [])(hpd:pds.getD j .any= .eq u):NPB P draw ms ops pds a w Q j:=
 ZcW args hG c.fr hf ho hargs λw' hC hg=>by
  have hro:AllF Φ1 w (λk=>k<w.heap.size):=by
   obtain⟨_,S0,F0,hM0,hs0,hF0⟩:=c;exact(AvaL.all ro hs0 hF0).sub λk hk _=>hk
  refine(hcon hg w' Non (λk=>k<w.heap.size) (Sep.nil _ _) (hro.chg hC λ_ _ h=>h.elim) (λ_ h=>h.elim) (λk hk=>Zeu hk hC.size) (λ_ h=>h.elim)).mono ?_;rintro e w'' ⟨i,S',F',rfl,hM',_,_⟩;exact⟨_,rfl,hM'.chg,by rw[hpd];exact hv⟩
theorem Ncn{κ:Type}{R:κ->Res}{V:κ->Value}{H:κ->HP}{args:List Value}{f:FuncId}{xs:Array Operand}{ts:Array TypeId}(c:Cx B N σ Γ Φ a w)(hcon:gc ops pds ops.size j->Con P f args [] Φ1 R)(ro:AvaL Γ Φ w Φ1)
  (hf:∀(args:Array Value)(w:World),(callFunc f args).run P w= .ok (.enter f args) w)(hV:∀i,Go.GL.tup (R i).1=V i:=by exact λ_=>rfl)(hH:∀i,HP.sep (R i).2.1=H i:=by exact λ_=>rfl)
  (ho:ops[j]? =some ⟨dst,.call ⟨.value (.func f),xs,ts⟩,ty,pos,af,g⟩:=by rfl)(hj:Nat.blt j ops.size=true:=by rfl)(hargs:xs.toList.map (argSpec ops σ pds j)=(args.map Sum.inl).map some:=by kernel_rfl)(hG:Good ops pds [])(hpd:pds.getD j .any= .is λv w'=>∃i,v=V i/\(H i).ok w' (λk=>w.heap.size<=k/\k<w'.heap.size/\ow k=j)):NPO P ms ops pds a w Q ow j:=
 ZaO (args.map .inl) hG c.fr hf ho hj hargs hpd λw' vs hC hg hsp=>by
  have hvs:vs=args:=by
   have key:∀(l vs:List Value),SpecP pds w' (l.map .inl) vs->vs=l:=by
    intro l
    induction l with
    |nil=>intro vs h;exact h
    |cons u l ih=>
     intro vs h;obtain⟨rest,rfl,h⟩:=h;grind
   grind
  subst hvs;have hro:AllF Φ1 w (λk=>k<w.heap.size):=by
   obtain⟨_,S0,F0,hM0,hs0,hF0⟩:=c;exact(AvaL.all ro hs0 hF0).sub λk hk _=>hk
  refine(hcon hg w' Non (λk=>k<w.heap.size) (Sep.nil _ _) (hro.chg hC λ_ _ h=>h.elim) (λ_ h=>h.elim) (λk hk=>Zeu hk hC.size) (λ_ h=>h.elim)).mono ?_;rintro e w'' ⟨i,S',F',rfl,hM',hs',_⟩;exact⟨_,rfl,hM'.chg,i,hV i,by rw[<-hH];exact hs'.mono λk _ hk=>(hM'.sub k hk).elim (λh=>h.elim) id⟩
end
class RawOf(ρ α:Type)[Flat ρ][Rep α]:Prop where
 sz:Rep.sz ρ=Rep.sz α
 agg:Rep.agg ρ=Rep.agg α
 ex:∀{w:World}{F:Nat->Prop}{cs:List Value}{x:α},Rep.ok w F cs x->∃q:ρ,cs=Flat.enc q
def FacL(w:World)(F:Nat->Prop):List RF->Prop
 |[]=>True
 |R::l=>R.ok w F/\FacL w F l
theorem AllF.of{w:World}{F:Nat->Prop}:∀(Ψ:List RF),FacL w F Ψ->AllF Ψ w F
 |[],_=>AllF.nil
 |R::l,h=>λR' hR=>by
  rcases ZeR.1 hR with rfl|hR
  ·exact h.1
  ·exact AllF.of l h.2 R' hR
deriving instance Inhabited for Hd
section
variable{B:Bs}{N:Nat}{σ:List (Nat×Value)}{Γ:List HP}{Φ:List RF}{a:Act}{w:World}
def Zaf{q:D.Value}{w:World}{F:Nat->Prop}{cs:List Value}(h:Rep.ok w F cs q):cs[0]? =some ((Str.val q.Name)):=by rw[Flat.iff.1 h];rfl
def Zaq{q:D.Value}{w:World}{F:Nat->Prop}{cs:List Value}(h:Rep.ok w F cs q):cs[1]? =some (.int .i64 q.W):=by rw[Flat.iff.1 h];rfl
def AV{q:D.Value}{w:World}{F:Nat->Prop}{cs:List Value}(h:Rep.ok w F cs q):cs[2]? =some (.int .i64 q.N):=by rw[Flat.iff.1 h];rfl
def Ava.mk_Term(x:D.Term){v4:Value}(h4:Ava Γ Φ w (RO v4 x.Kids)):Ava Γ Φ w (RO (.agg #[.int .i64 x.Op,.int .i64 x.W,.int .i64 x.N,(Str.val x.Name),v4]) x):=λS F hs hf=>RV.mk_Term x (h4 S F hs hf)
def Cx.o_Term{v:Value}{x:D.Term}(i:Nat)(c:Cx B N σ Γ Φ a w)(hi:Φ[i]? =some (RO v x):=by rfl):∃(a4:Option Addr)(c4:Nat),v= .agg #[.int .i64 x.Op,.int .i64 x.W,.int .i64 x.N,(Str.val x.Name),.slice a4 x.Kids.length c4]/\Cx B N σ Γ (Φ++[RO (.slice a4 x.Kids.length c4) x.Kids]) a w:=by
 obtain⟨hF,S,F,hM,hs,hf⟩:=c;obtain⟨v4,rfl,h4⟩:=RV.Term (hf.get hi);obtain⟨a4,c4,rfl,_⟩:=RV.slice h4;exact⟨a4,c4,rfl,hF,S,F,hM,hs,hf.join (AllF.of [_] ⟨h4,trivial⟩)⟩
def ZbK{q:D.Term}{w:World}{F:Nat->Prop}{cs:List Value}(h:Rep.ok w F cs q):cs[0]? =some (.int .i64 q.Op):=by
 obtain⟨y0,y1,y2,y3,y4⟩:=q;have h:okTerm w F cs ⟨y0,y1,y2,y3,y4⟩:=h;grind[okTerm]
def Zca{q:D.Term}{w:World}{F:Nat->Prop}{cs:List Value}(h:Rep.ok w F cs q):cs[1]? =some (.int .i64 q.W):=by
 obtain⟨y0,y1,y2,y3,y4⟩:=q;have h:okTerm w F cs ⟨y0,y1,y2,y3,y4⟩:=h;grind[okTerm]
structure Rw.Term where
 Op:Int
 W:Int
 N:Int
 Name:Str
 Kids:Hd
deriving Inhabited
instance:Rep Rw.Term where
 sz:=5
 agg:=true
 ok:=λ_ _ cs x=>cs=[.int .i64 x.Op,.int .i64 x.W,.int .i64 x.N,(Str.val x.Name),x.Kids.v]
 len:=by simp
 one:=by rintro w F cs x rfl u hu;simp at hu;rcases hu with rfl|rfl|rfl|rfl|rfl<;>rfl
 pos:=by decide
 sgl:=λh=>by cases h
 keep:=λh _=>h
instance:Flat Rw.Term where
 enc:=λx=>[.int .i64 x.Op,.int .i64 x.W,.int .i64 x.N,(Str.val x.Name),x.Kids.v]
 iff:=Iff.rfl
instance:RawOf Rw.Term D.Term where
 sz:=rfl
 agg:=rfl
 ex:=by
  rintro w F cs ⟨y0,y1,y2,y3,kids⟩ h;obtain⟨a,cp,rfl,_⟩:=h;exact⟨⟨y0,y1,y2,y3,⟨a,kids.length,cp⟩⟩,rfl⟩
end
section
variable{P:Program}{B:Bs}{N:Nat}{σ:List (Nat×Value)}{Γ:List HP}{Φ:List RF}{a:Act}{w:World}{Q:Exit->Act->World->Prop}
  {ops:Array Oper}{k d d2 d3:Nat}{t t' s' ty ty' ty2 yt:TypeId}{pos pos' pos2:String}{af af' af2:Array Edge}{x y y' z:Operand}{kd kk:IntKind}
def Cx.fad{Rf:RF}(c:Cx B N σ Γ Φ a w)(h:∀F,AllF Φ w F->Rf.ok w F):Cx B N σ Γ (Φ++[Rf]) a w:=by
 obtain⟨hF,S,F,h1,h2,h3⟩:=c;exact⟨hF,S,F,h1,h2,h3.add (h F h3)⟩
def Ava.ro{Rf:RF}{F:Nat->Prop}(h:Ava [] Φ w Rf)(hf:AllF Φ w F):Rf.ok w F:=Rf.sub (h Non F (Sep.nil w Non) hf) λ_ _ h=>h.elim id λh=>h.elim
end
def Pd.fl(u:Value):Pd:=.is λv w=>∃ad,v= .pointer (some ad)/\Cells w ad [u]
def flM{u:Value}:(Pd.fl u).Mono Non:=λv w w'⟨ad,h1,h2⟩hc=>⟨ad,h1,h2.keep λ_=>hc.block _ (h2.lt U) id⟩
def flO{u:Value}:(Pd.fl u).MonoO:=Pd.monoO_is flM
def Pd.rd{α:Type}[Rep α](x:α):Pd:=.is λv w=>RV w (λ_=>True) v x
def rdM{α:Type}[Rep α]{x:α}:(Pd.rd x).Mono Non:=Bt
def rdO{α:Type}[Rep α]{x:α}:(Pd.rd x).MonoO:=Pd.monoO_is Bt
inductive ArgS where
 |v (u:Value)
 |r (i:Nat) (R:Value->RF)
def ArgsOk(w:World):List ArgS->List Value->Prop
 |[],vs=>vs=[]
 |.v u::r,vs=>∃rest,vs=u::rest/\ArgsOk w r rest
 |.r _ R::r,vs=>∃v rest,vs=v::rest/\(R v).ok w (λ_=>True)/\ArgsOk w r rest
def ArgS.sum:ArgS->Value⊕Nat
 |.v u=>.inl u
 |.r i _=>.inr i
def ArgS.in(pds:List Pd):ArgS->Prop
 |.v _=>True
 |.r i R=>pds.getD i .any= .is λv w=>(R v).ok w (λ_=>True)
section
variable{P:Program}{B:Bs}{N:Nat}{σ:List (Nat×Value)}{Γ:List HP}{Φ Φ1 Ψ:List RF}{a:Act}{w:World}{Q:Exit->Act->World->Prop}
  {draw:Bool}{ms:List Nat}{ops:Array Oper}{pds:List Pd}{j d:Nat}{dst:Option Tmp}{g:Option (Nat×Bool)}{t ty yt:TypeId}{x y:Operand}{pos:String}{af:Array Edge}{ow:Nat->Nat}
theorem Nfa{α:Type}[Rep α]{q:α}{u:Value}{s fl off:Nat}(c:Cx B N σ Γ Φ a w)(i:Nat)(hpi:pds.getD i .any= .is λv w=>ElemP w (λ_=>True) v q)(hu:∀{w:World}{F:Nat->Prop}{cs:List Value},Rep.ok w F cs q->cs[off]? =some u)(ho:ops[j]? =some ⟨dst,.fieldAddr t (.tmp s) fl,ty,pos,af,g⟩:=by rfl)(hj:Nat.blt j ops.size=true:=by rfl)(hl:lastW ops s j=some i:=by rfl)(hok:okG ops ops.size j i=true:=by rfl)
  (hoff:fieldOff P t fl=some off:=by kernel_rfl)(hG:Good ops pds [])(hpd:pds.getD j .any= .is λv w=>∃ad,v= .pointer (some ad)/\Cells w ad [u]):NPB P draw ms ops pds a w Q j:=
 RU _ ho hG c.fr λa' w' _ hg _ hk=>by
  have h:=Qy hG hj hl hok hg (hk s ai);rw[hpi]at h;obtain⟨ad,cs,hv,_,h1,h2⟩:=h
  refine Zh (v:=.pointer (some (ad.add off))) (w':=w') (Pz (P:=P) (ρ:=λy=>match y with|.tmp s'=>if s'=s then some (.pointer (some ad))else none|_=>none) (ρ':=a'.eval) (λy z hy=>by
   grind) aX w') ?_
  rw[hpd];refine⟨⟨_,rfl,λi' q' hq=>?_⟩,Chg.refl _ _⟩;cases i' with
  |zero=>
   simp only[Zfs,Option.some.injEq]at hq;subst hq;exact h2 off u (hu h1)
  |succ j=>simp at hq
def Nlf{u:Value}{s:Nat}(c:Cx B N σ Γ Φ a w)(i:Nat)(hpi:pds.getD i .any= .is λv w=>∃ad,v= .pointer (some ad)/\Cells w ad [u])(ho:ops[j]? =some ⟨dst,.load t (.tmp s),ty,pos,af,g⟩:=by rfl)(hj:Nat.blt j ops.size=true:=by rfl)
  (hl:lastW ops s j=some i:=by rfl)(hok:okG ops ops.size j i=true:=by rfl)(ht:Ty P t Int:=by constructor<;>kernel_rfl)(hG:Good ops pds [])(hpd:pds.getD j .any= .eq u):NPB P draw ms ops pds a w Q j:=
 RU _ ho hG c.fr λa' w' _ hg _ hk=>by
  have h:=Qy hG hj hl hok hg (hk s ai);rw[hpi]at h;obtain⟨ad,hv,h2⟩:=h;refine Zh (v:=u) (w':=w') ?_ ak;have:=YO ht (cs:=[u]) rfl h2;have hv':Rep.val Int [u]=u:=rfl;simp_all[execOp,Instr.loadAt,Instr.sureAddr]
def Nrd{α:Type}[Rep α]{q:α}{s:Nat}(c:Cx B N σ Γ Φ a w)(i:Nat)(hpi:pds.getD i .any= .is λv w=>ElemP w (λ_=>True) v q)(ho:ops[j]? =some ⟨dst,.load t (.tmp s),ty,pos,af,g⟩:=by rfl)
  (hj:Nat.blt j ops.size=true:=by rfl)(hl:lastW ops s j=some i:=by rfl)(hok:okG ops ops.size j i=true:=by rfl)(ht:Ty P t α:=by constructor<;>kernel_rfl)(hG:Good ops pds [])(hpd:pds.getD j .any= .is λv w=>RV w (λ_=>True) v q):NPB P draw ms ops pds a w Q j:=
 RU _ ho hG c.fr λa' w' _ hg _ hk=>(Md (F:=λ_=>True) (y:=q) rfl ht rfl (by
  have:=Qy hG hj hl hok hg (hk s ai);rw[hpi]at this;exact this)).mono λv w'⟨h1,h2⟩=>by
  subst h2;rw[hpd];exact⟨h1,Chg.refl _ _⟩
theorem Ht{w:World}:∀{spec:List ArgS}{vs:List Value},AllP (ArgS.in pds) spec->SpecP pds w (spec.map ArgS.sum) vs->ArgsOk w spec vs
 |[],vs,_,h=>h
 |.v u::r,vs,hp,h=>by
  obtain⟨rest,h1,h2⟩:=h;exact⟨rest,h1,Ht hp.2 h2⟩
 |.r i R::r,vs,hp,h=>by
  obtain⟨v,rest,h1,h2,h3⟩:=h;have hi:pds.getD i .any=_:=hp.1;rw[hi]at h2;exact⟨v,rest,h1,h2,Ht hp.2 h3⟩
def Ncd{f:FuncId}{xs:Array Operand}{ts:Array TypeId}{rs:List Value}{u:Value}(spec:List ArgS)(c:Cx B N σ Γ Φ a w)(hi:AllP (ArgS.in pds) spec)(ro:AvaL Γ Φ w Ψ)
  (hcon:gc ops pds ops.size j->∀w' vs,ArgsOk w' spec vs->AllF Ψ w' (λ_=>True)->∃Φ1,AllF Φ1 w' (λ_=>True)/\Con P f vs [] Φ1 λ(_:Unit)=>(rs,[],[]))
  (hf:∀(args:Array Value)(w:World),(callFunc f args).run P w= .ok (.enter f args) w)(hv:Go.GL.tup rs=u:=by rfl)(ho:ops[j]? =some ⟨dst,.call ⟨.value (.func f),xs,ts⟩,ty,pos,af,g⟩:=by rfl)
  (hj:Nat.blt j ops.size=true:=by rfl)(hargs:xs.toList.map (argSpec ops σ pds j)=(spec.map ArgS.sum).map some:=by kernel_rfl)(hG:Good ops pds [])(hpd:pds.getD j .any= .eq u):NPB P draw ms ops pds a w Q j:=
 ZbF (spec.map ArgS.sum) hG c.fr hf ho hj hargs λw' vs hC hg hsp=>by
  have hro:AllF Ψ w' (λ_=>True):=by
   obtain⟨_,S0,F0,hM0,hs0,hF0⟩:=c;exact((AvaL.all ro hs0 hF0).chg hC λ_ _ h=>h.elim).sub λ_ _ _=>trivial
  obtain⟨Φ1,h1,h2⟩:=hcon hg w' vs (Ht hi hsp) hro;refine(h2 w' Non (λk=>k<w'.heap.size) (Sep.nil _ _) (h1.sub λk hk _=>hk) (λ_ h=>h.elim) (λk hk=>hk) (λ_ h=>h.elim)).mono ?_;rintro e w'' ⟨i,S',F',rfl,hM',_,_⟩;exact⟨_,rfl,hM'.chg,by rw[hpd];exact hv⟩
end
class Opn(α:Type)[Rep α]where
 κ:Type
 val:α->κ->Value
 facts:α->κ->List RF
 opn:∀{w:World}{F:Nat->Prop}{v:Value}{x:α},RV w F v x->∃k,v=val x k/\AllF (facts x k) w F
instance{α:Type}[Rep α]:Opn (List α)where
 κ:=Option Addr×Nat
 val l k:=.slice k.1 l.length k.2
 facts l k:=[RO (.slice k.1 l.length k.2) l]
 opn:=λh=>by
  obtain⟨b,cp,rfl,_⟩:=RV.slice h;exact⟨(b,cp),rfl,AllF.of [_] ⟨h,trivial⟩⟩
instance:Opn D.Term where
 κ:=Option Addr×Nat
 val x k:=.agg #[.int .i64 x.Op,.int .i64 x.W,.int .i64 x.N,x.Name.val,.slice k.1 x.Kids.length k.2]
 facts x k:=[RO (.slice k.1 x.Kids.length k.2) x.Kids]
 opn:=λh=>by
  obtain⟨v4,rfl,h2⟩:=RV.Term h;obtain⟨b,cp,rfl,_⟩:=RV.slice h2;exact⟨(b,cp),rfl,AllF.of [_] ⟨h2,trivial⟩⟩
def mapSI(P:Program)(k e:TypeId)(hk:P.underlying k=some .string)(he:P.underlying e=some (.int .i64))(hzero:(P.info? e).map (·.zero)=some (some (.int .i64 0))):MapT P k e Str Int where
 fit:=fitS
 lit x:=.string x.bytes
 dv y:=.lit (.int .i64 y)
 zero:=0
 efit:=fitZ
 zfit:=rfl
 keyed:=Maps.string_keyed hk
 key x h:=by
  have h:x.bytes.length<=9223372036854775807:=of_decide_eq_true h;have h2:(Rep.val Str (Flat.enc x))= .string ⟨x.bytes.toArray⟩:=rfl;unfold keyOf;rw[hk,h2];simp only[mapKey,hk];have h3:(ByteArray.mk x.bytes.toArray).size<=maxLen:=by show x.bytes.toArray.size<=_;simp_all[maxLen]
  simp[h3]
 inj x y _ _ h:=by
  cases x;simp_all
 elem y h:=plainElem_int he (by grind[fitZ])
 back v y ps h:=by
  obtain⟨c,rfl,hc,_⟩:=plainElem_int_inv he h;simp only[Prod.mk.injEq,DataW.lit.injEq,Lit.int.injEq]at hc;rw[hc.1.2];rfl
 hz w:=by
  show(zeroValue e).run P w= .ok (.int .i64 0) w;cases hi:P.info? e with
  |none=>simp_all
  |some i=>
   simp_all[Ze0,Option.some.injEq,zeroValue,typeInfo]
section
variable{P:Program}{K V:TypeId}{κ β:Type}[Flat κ][Flat β]
def OM(T:MapT P K V κ β)(v:Value)(m:Option (List (κ×β))):HP where
 ok w A:=match m with
  |none=>v= .map none
  |some l=>∃b,v= .map (some b)/\OwnM T w b l/\A b
 mono:=λ{w A A'}h hA=>by
  grind[OwnM.lt]
 keep:=λ{w w' A T'}h hc hT=>by
  cases m with
  |none=>exact h
  |some l=>obtain⟨b,h1,h2,h3⟩:=h;exact⟨b,h1,h2.chg T hc (hT b h3),h3⟩
def MO(T:MapT P K V κ β)(v:Value)(m:Option (List (κ×β))):RF where
 ok w F:=(OM T v m).ok w F
 sub:=λh hs=>(OM T v m).mono h hs
 chg:=λh hc ht=>(OM T v m).keep h hc ht
variable{B:Bs}{N:Nat}{σ:List (Nat×Value)}{Γ:List HP}{Φ:List RF}{a:Act}{w:World}{Q:Exit->Act->World->Prop}{T:MapT P K V κ β}
  {ops:Array Oper}{k d b:Nat}{t ty yt:TypeId}{pos:String}{af:Array Edge}{x y z:Operand}{v:Value}{m:Option (List (κ×β))}{l:List (κ×β)}
def Cx.om[DecidableEq κ](i:Nat)(c:Cx B N σ Γ Φ a w)(hi:Γ[i]? =some (MP T b l):=by rfl):Cx B N σ (Γ.set i (OM T (.map (some b)) (some l))) Φ a w:=c.swap (H:=MP T b l) (H':=OM T (.map (some b)) (some l)) i (λA h=>(⟨b,rfl,h.1,h.2⟩:(OM T (.map (some b)) (some l)).ok w A)) hi
def Cx.nilm(T:MapT P K V κ β)(c:Cx B N σ Γ Φ a w):Cx B N σ (Γ++[OM T (.map none) none]) Φ a w:=c.gam λS h=>Zn (Γ2:=[OM T (.map none) none]) (Sep.emp _ h rfl)
theorem Cx.som[DecidableEq κ](i:Nat)(c:Cx B N σ Γ Φ a w)(hm:m.isNone=false)(hi:Γ[i]? =some (OM T v m):=by rfl):∃b,v= .map (some b)/\Cx B N σ (Γ.set i (MP T b (m.getD []))) Φ a w:=by
 cases m with
 |none=>cases hm
 | some l=>
  have:∃b,v= .map (some b):=by
   obtain⟨_,S,F,_,hs,_⟩:=c;obtain⟨A,h,_⟩:=hs.get i hi;obtain⟨b,h,_⟩:=h;simp_all
  obtain⟨b,rfl⟩:=this;exact⟨b,rfl,c.swap (H:=OM T (.map (some b)) (some l)) (H':=MP T b l) i (λA h=>by obtain⟨b',h1,h2,h3⟩:=h;cases h1;exact⟨h2,h3⟩) hi⟩
def Cx.smx[DecidableEq κ](i:Nat)(c:Cx B N σ Γ Φ a w)(hm:m=some l)(hi:Γ[i]? =some (OM T v m):=by rfl):∃b,v= .map (some b)/\Cx B N σ (Γ.set i (MP T b l)) Φ a w:=by
 subst hm;exact c.som i rfl hi
theorem Cx.nom(i:Nat)(c:Cx B N σ Γ Φ a w)(hm:m.isNone=true)(hi:Γ[i]? =some (OM T v m):=by rfl):v= .map none:=by
 cases m with
 |some l=>cases hm
 |none=>
  obtain⟨_,S,F,_,hs,_⟩:=c;obtain⟨A,h,_⟩:=hs.get i hi;exact h
def Ava.mp[DecidableEq κ](i:Nat)(h:Γ[i]? =some (MP T b l):=by rfl):Ava Γ Φ w (MO T (.map (some b)) (some l)):=λS F hs _=>by
 obtain⟨A,h1,h2⟩:=hs.get i h;exact⟨b,rfl,h1.1,.inr (h2 b h1.2)⟩
def Ava.om(i:Nat)(h:Γ[i]? =some (OM T v m):=by rfl):Ava Γ Φ w (MO T v m):=λS F hs _=>by
 obtain⟨A,h1,h2⟩:=hs.get i h;exact(OM T v m).mono h1 λk _ hk=>.inr (h2 k hk)
def Ava.mn:Ava Γ Φ w (MO T (.map none) none):=λS F hs _=>rfl
def Zao{t:TypeId}(ht:P.underlying t=some (.map K V))(o:Option Nat)(w:World):(binOp .eql t (.map o) (.map none)).run P w= .ok (.bool o.isNone) w:=by
 unfold binOp Op.equal Op.maxDepth Op.equalIn;cases o<;>simp[run_underlying ht]
theorem Enm(i:Nat)(c:Cx B N σ Γ Φ a w)(h:∀fr,Cx B N ((d,.bool m.isNone)::σ) Γ Φ fr w->wpFrom P ops Q (k+1) fr w)(hi:Γ[i]? =some (OM T v m):=by rfl)(ho:ops[k]? =some ⟨some d,.binOp .eql t x y yt,ty,pos,af,none⟩:=by rfl)(hd:Nat.blt d N=true:=by rfl)
  (ht:P.underlying t=some (.map K V):=by kernel_rfl)(hx:opd σ x=some v:=by kernel_rfl)(hy:opd σ y=some (.map none):=by kernel_rfl):wpFrom P ops Q k a w:=by
 obtain⟨S,F,hM,hs,hf⟩:=c.me;obtain⟨A,hA,_⟩:=hs.get i hi;have:∃o:Option Nat,v= .map o/\o.isNone=m.isNone:=by
  cases m with
  |none=>exact⟨none,hA,rfl⟩
  |some l=>obtain⟨b,h1,_⟩:=hA;simp_all
 obtain⟨o,rfl,ho'⟩:=this;exact MU ho hd c.fr hx hy ar (Zao ht o w) λfr hF=>h fr (c.to ag)
theorem Erg[DecidableEq κ]{q:κ}{r:β}{fit:κ->Bool}{zz:β}(c:Cx B N σ Γ Φ a w)(hl:Ava Γ Φ w (MO T v m))(hr:mgeto? fit zz m q=some r)(h:∀fr,Cx B N ((d,Rep.val β (Flat.enc r))::σ) Γ Φ fr w->wpFrom P ops Q (k+1) fr w)(hfit:T.fit=fit:=by rfl)(hzz:T.zero=zz:=by rfl)
  (ho:ops[k]? =some ⟨some d,.lookup t x y false,ty,pos,af,none⟩:=by rfl)(hd:Nat.blt d N=true:=by rfl)(ht:P.underlying t=some (.map K V):=by kernel_rfl)(hx:opd σ x=some v:=by kernel_rfl)(hy:opd σ y=some (Rep.val κ (Flat.enc q)):=by kernel_rfl):wpFrom P ops Q k a w:=by
 obtain⟨F,hl⟩:=c.use hl;subst hfit;subst hzz;cases m with
 |some l=>
  obtain⟨b,rfl,h1,h2⟩:=hl;have hs:Sep [MP T b l] w F:=Sep.of_ok (A:=F) ⟨h1,h2⟩;exact GA T 0 hs rfl ht ho hd c.fr (u:=q) (mget?_fit hr) hx hy rfl (congrArg (λy=>Rep.val β (Flat.enc y)) (mget?_val hr)) λfr hF=>h fr (c.to hF)
 | none=>
  obtain rfl:v= .map none:=hl;have hrz:r=T.zero:=by
   simp_all[mgeto?,mget?]
  subst hrz;refine Zu c.fr ho rfl rfl (Ze4.mp hd) (R:=λz w1=>z=Rep.val β (Flat.enc T.zero)/\w1=w) (Zh ?_ ⟨rfl,rfl⟩) λz w1 fr hz hF'=>?_
  ·have hkey:=T.key q (mget?_fit hr);have hck:=T.keyed.check w true hkey;have hfd:(Instr.findKey K (Rep.val κ (Flat.enc q)) []).run P w= .ok none w:=by
    rcases T.keyed.find w hkey [] (λe he=>by cases he)with h|⟨j,e,_,h,_⟩
    all_goals grind
   simp[execOp,Instr.lookup,Zd c.fr hx,Zd c.fr hy,run_underlying ht,hck,hfd,Result.andThen,T.hz]
  ·obtain⟨rfl,rfl⟩:=hz;exact h fr (c.to hF')
def Nmg[DecidableEq κ]{ops:Array Oper}{pds:List Pd}{draw:Bool}{ms:List Nat}{j:Nat}{dst:Option Tmp}{g:Option (Nat×Bool)}{l:List (κ×β)}{b:Nat}{q:κ}{r:β}{u:Value}{fit:κ->Bool}{zz:β}{ty t:TypeId}{pos:String}{af:Array Edge}{x y:Operand}(i:Nat)(c:Cx B N σ Γ Φ a w)(hr:gc ops pds ops.size j->mget? fit zz l q=some r)(hi:Γ[i]? =some (MP T b l):=by rfl)(hfit:T.fit=fit:=by rfl)(hzz:T.zero=zz:=by rfl)(hu:Rep.val β (Flat.enc r)=u:=by rfl)
  (ho:ops[j]? =some ⟨dst,.lookup t x y false,ty,pos,af,g⟩:=by rfl)(ht:P.underlying t=some (.map K V):=by kernel_rfl)(hx:envP ops σ pds j x=some (.map (some b)):=by kernel_rfl)(hy:envP ops σ pds j y=some (Rep.val κ (Flat.enc q)):=by kernel_rfl)(hG:Good ops pds [])(hpd:pds.getD j .any= .eq u):NPB P draw ms ops pds a w Q j:=by
 obtain⟨S,F,hM,hs,hf⟩:=c.me;subst hfit;subst hzz;exact Zam T i hs hi ht hG c.fr ho hx hy rfl (λhg=>mget?_fit (hr hg)) (λhg=>(congrArg (λy=>Rep.val β (Flat.enc y)) (mget?_val (hr hg))).trans hu) hpd
def Nmg2[DecidableEq κ]{ops:Array Oper}{pds:List Pd}{draw:Bool}{ms:List Nat}{j:Nat}{dst:Option Tmp}{g:Option (Nat×Bool)}{l:List (κ×β)}{b:Nat}{q:κ}{r:β×Bool}{u:Value}{fit:κ->Bool}{zz:β}{ty t:TypeId}{pos:String}{af:Array Edge}{x y:Operand}(i:Nat)(c:Cx B N σ Γ Φ a w)(hr:gc ops pds ops.size j->mget2? fit zz l q=some r)(hi:Γ[i]? =some (MP T b l):=by rfl)(hfit:T.fit=fit:=by rfl)(hzz:T.zero=zz:=by rfl)(hu: .tuple #[Rep.val β (Flat.enc r.1),.bool r.2]=u:=by rfl)
  (ho:ops[j]? =some ⟨dst,.lookup t x y true,ty,pos,af,g⟩:=by rfl)(ht:P.underlying t=some (.map K V):=by kernel_rfl)(hx:envP ops σ pds j x=some (.map (some b)):=by kernel_rfl)(hy:envP ops σ pds j y=some (Rep.val κ (Flat.enc q)):=by kernel_rfl)(hG:Good ops pds [])(hpd:pds.getD j .any= .eq u):NPB P draw ms ops pds a w Q j:=by
 obtain⟨S,F,hM,hs,hf⟩:=c.me;subst hfit;subst hzz;exact Dg T i hs hi ht hG c.fr ho hx hy rfl (λhg=>mget2?_fit (hr hg)) (λhg=>mget2?_val (hr hg)) hu hpd
end
def Nlt{P:Program}{B:Bs}{N:Nat}{σ:List (Nat×Value)}{Γ:List HP}{Φ:List RF}{a:Act}{w:World}{Q:Exit->Act->World->Prop}{ms:List Nat}{ops:Array Oper}{pds:List Pd}{j:Nat}{dst:Option Tmp}{g:Option (Nat×Bool)}{t ty:TypeId}{pos:String}{af:Array Edge}{ow:Nat->Nat}
  {α:Type}[Flat α]{E:TypeId}{n:Nat}{parts:Array (Nat×Operand)}(c:Cx B N σ Γ Φ a w)(l:List α)(ho:ops[j]? =some ⟨dst,.buildSlice t n parts,ty,pos,af,g⟩:=by rfl)(hln:l.length=n:=by rfl)(hmax:Nat.ble l.length room=true:=by rfl)
  (hv:parts.toList.map (λp=>envP ops σ pds j p.2)=(l.map λx=>Rep.val α (Flat.enc x)).map some:=by kernel_rfl)
  (hrun:∀w,(Instr.buildSlice t n ((parts.toList.map (·.1)).zip (l.map λx=>Rep.val α (Flat.enc x))).toArray).run P w= .ok (.slice (some ⟨w.heap.size,0,none⟩) n n) (w.alloc (.cells (l.map Flat.enc).flatten.toArray E)):=by intro _;kernel_rfl)(hG:Good ops pds [])(hpd:pds.getD j .any= .is λv w'=>∃i:Option Addr×Nat,v= .slice i.1 (List.length l) i.2/\(SL E (.slice i.1 (List.length l) i.2) l).ok w' (λk=>w.heap.size<=k/\k<w'.heap.size/\ow k=j)):NPO P ms ops pds a w Q ow j:=
 Zdx (l.map Flat.enc).flatten (l.map Flat.enc) l hG c.fr ho _ hv hrun (λ_=>Qd _) rfl hln hmax hpd
def TBn(P:Program)(name:String)(k:IntKind)(zs:List Int):RF where
 ok w F:=TB P name k zs w F
 sub h hs:=h.sub hs
 chg h hc ht:=h.chg hc ht
abbrev TBf(P:Program):RF:=TBn P "internal/strconv.uint64pow10" .u64 Lib.pow10Tab
def Con.lib{P:Program}{f:FuncId}{args:List Value}{Φ:List RF}{v:Value}(h:∀(w:World)(F:Nat->Prop),AllF Φ w F->Calls P f args.toArray w λe w'=>e= .returned v/\Chg Non w w'):Con P f args [] Φ λ(_:Unit)=>([v],[],[]):=by
 intro w S F hs hF hS hf hd;refine(h w F hF).mono ?_;rintro e w' ⟨rfl,hc⟩;obtain⟨S',hM,hs'⟩:∃S',Mem w S F w' S' F/\Sep [] w' S':=⟨S,(Mem.start hS hf hd).ext hc,Sep.nil _ _⟩;exact⟨(),S',F,rfl,hM,hs',λ_ h=>by cases h⟩
section
variable{ρ α:Type}[Flat ρ][Rep α][RawOf ρ α]{w:World}{F:Nat->Prop}{v:Value}
omit[RawOf ρ α]in
theorem Zdl{cs cs':List Value}(ha:Rep.agg ρ=Rep.agg α)(hs:Rep.sz ρ=Rep.sz α)(hl:cs.length=Rep.sz ρ)(hl':cs'.length=Rep.sz α)(h:Rep.val ρ cs=Rep.val α cs'):cs=cs':=by
 unfold Rep.val at h;rw[<-ha]at h;cases hb:Rep.agg ρ with
 |true=>
  rw[hb]at h;simp only[Ze2,Value.agg.injEq]at h;simpa using congrArg Array.toList h
 | false=>
  rw[hb]at h;have h1:=Rep.sgl hb;simp only[Zeg,Zen]at h;cases cs with
  |nil=>simp[h1]at hl
  | cons u us=>
   cases cs' with
   |nil=>rw[<-hs,h1]at hl';simp at hl'
   |cons u' us'=>
    rw[h1]at hl;rw[<-hs,h1]at hl';simp only[Ze3,Nat.add_eq_right,Zg5]at hl hl';subst hl;subst hl';simpa using h
def Zbe{q:ρ}{x:α}(h:RV w F (Rep.val ρ (Flat.enc q)) x):Rep.ok w F (Flat.enc q) x:=by
 obtain⟨cs,h1,h2⟩:=h;have:=Zdl (ρ:=ρ) (α:=α) (RawOf.agg) (RawOf.sz) (Rep.len (w:=w) (F:=F) (Flat.iff.2 rfl:Rep.ok w F (Flat.enc q) q)) (Rep.len h1) h2;simp_all
theorem Ip{ad:Addr}:∀{xs:List α}{i:Nat},elems w F ad i xs->∃rs:List ρ,elems w F ad i rs/\Css w F (rs.map Flat.enc) xs
 |[],i,_=>⟨[],trivial,rfl,λi cs x h=>by simp at h⟩
 |x::xs,i,h=>by
  obtain⟨⟨cs,h1,h2⟩,h3⟩:=h;obtain⟨q,rfl⟩:=RawOf.ex (ρ:=ρ) h1;obtain⟨rs,g1,g2⟩:=Ip h3;refine⟨q::rs,⟨⟨Flat.enc q,Flat.iff.2 rfl,by grind[RawOf.sz]⟩,g1⟩,by simp[g2.1],λj cs y hj hy=>?_⟩;cases j with
  |zero=>simp_all
  |succ j=>exact g2.2 j cs y ag ag
def ZbU{xs:List α}(h:RV w F v xs):∃rs:List ρ,RV w F v rs/\Css w F (rs.map Flat.enc) xs:=by
 obtain⟨a,cp,rfl,h1,h2,h3⟩:=RV.slice h;by_cases hn:xs=[]
 ·subst hn;exact⟨[],RV.mk_slice (l:=([]:List ρ)) h1 h2 (λh=>absurd rfl h),rfl,λi cs x h=>by simp at h⟩
 ·obtain⟨ad,rfl,hF,he⟩:=h3 hn;obtain⟨rs,g1,g2⟩:=Ip (ρ:=ρ) he;have hl:rs.length=xs.length:=by simpa using g2.1
  exact⟨rs,by rw[<-hl];exact RV.mk_slice O h2 (λ_=>⟨ad,rfl,hF,g1⟩),g2⟩
theorem JY{ad:Addr}:∀{rs:List ρ}{xs:List α}{i:Nat},elems w F ad i rs->Css w F (rs.map Flat.enc) xs->elems w F ad i xs
 |[],[],_,_,_=>trivial
 |[],x::xs,_,_,h=>by have:=h.1;simp at this
 |q::rs,[],_,_,h=>by have:=h.1;simp at this
 |q::rs,x::xs,i,h,hc=>by
  obtain⟨⟨cs,h1,h2⟩,h3⟩:=h;obtain rfl:=Flat.iff.1 h1;refine⟨⟨_,hc.2 0 _ _ rfl rfl,by grind[RawOf.sz]⟩,JY h3 ⟨by simpa using hc.1,λj cs y hj hy=>hc.2 (j+1) cs y ag ag⟩⟩
def KX{rs:List ρ}{xs:List α}(h:RV w F v rs)(hc:Css w F (rs.map Flat.enc) xs):RV w F v xs:=by
 obtain⟨a,cp,rfl,h1,h2,h3⟩:=RV.slice h;have hl:rs.length=xs.length:=by simpa using hc.1
 rw[hl];refine RV.mk_slice O h2 λhn=>?_;obtain⟨ad,rfl,hF,he⟩:=h3 an;exact⟨ad,rfl,hF,JY he hc⟩
omit [RawOf ρ α]in
def Cm{rs:List ρ}{xs:List α}(hc:Css w F (rs.map Flat.enc) xs){i:Nat}{x:α}(hx:xs[i]? =some x):∃q,rs[i]? =some q/\Rep.ok w F (Flat.enc q) x:=by
 have hl:rs.length=xs.length:=by simpa using hc.1
 have hlt:=(Zej.1 hx).1;have hq:rs[i]? =some rs[i]:=by simp[hl,hlt]
 exact⟨rs[i],hq,hc.2 i _ x (by rw[ZeL,hq];rfl) hx⟩
omit [RawOf ρ α]in
def DD{rs rs':List ρ}{xs xs':List α}(hc:Css w F (rs.map Flat.enc) xs)(hc':Css w F (rs'.map Flat.enc) xs'):Css w F ((rs++rs').map Flat.enc) (xs++xs'):=by
 have hl:rs.length=xs.length:=by simpa using hc.1
 refine⟨by simp[hl,(show rs'.length=xs'.length by simpa using hc'.1)],λi cs y hi hy=>?_⟩;rw[Zfj,ZfB,Zf5]at hi;rw[ZfB,<-hl]at hy;split at hi
 ·rename_i h;rw[Zei h]at hy;exact hc.2 i cs y hi hy
 ·rename_i h;rw[Zem h]at hy;exact hc'.2 _ cs y hi hy
end
section
variable{ρ α:Type}[Flat ρ][Rep α]
def LitA(Φ:List RF)(w:World):List ρ->List α->Prop
 |[],[]=>True
 |q::rs,x::xs=>Ava [] Φ w (RO (Rep.val ρ (Flat.enc q)) x)/\LitA Φ w rs xs
 |_,_=>False
theorem LitA.css[RawOf ρ α]{Φ:List RF}{w:World}{F:Nat->Prop}(hf:AllF Φ w F):∀{rs:List ρ}{xs:List α},LitA Φ w rs xs->Css w F (rs.map Flat.enc) xs
 |[],[],_=>⟨rfl,λi cs x h=>by simp at h⟩
 |[],_::_,h=>h.elim
 |_::_,[],h=>h.elim
 |q::rs,x::xs,h=>by
  have h2:=LitA.css hf h.2;refine⟨by simpa using h2.1,λi cs y hi hy=>?_⟩;cases i with
  |zero=>simp only[ZeQ,Zfs,Option.some.injEq]at hi hy;subst hi;subst hy;exact Zbe (h.1.ro hf)
  |succ i=>exact h2.2 i cs y ag ag
variable{P:Program}{B:Bs}{N:Nat}{σ:List (Nat×Value)}{Γ:List HP}{Φ:List RF}{a:Act}{w:World}{Q:Exit->Act->World->Prop}
  {ops:Array Oper}{k d d2:Nat}{t t' ty ty':TypeId}{pos pos':String}{af af':Array Edge}{x y z:Operand}{E:TypeId}{v u:Value}{rs:List ρ}{xs ms r:List α}
def Ava.gr[RawOf ρ α](i j:Nat)(hi:Γ[i]? =some (SL E v rs):=by rfl)(hj:Φ[j]? =some (CS rs xs):=by rfl):Ava Γ Φ w (RO v xs):=λS F hs hf=>by
 have h1:=RV.sub (F':=λk=>F k\/S k) (hs.rv i hi) λ_ _ h=>.inr h;have h2:=(CS rs xs).sub (F':=λk=>F k\/S k) (hf.get hj) λ_ _ h=>.inl h;exact KX h1 h2
def Cx.csn(c:Cx B N σ Γ Φ a w):Cx B N σ Γ (Φ++[CS ([]:List ρ) ([]:List α)]) a w:=c.fad λF _=>⟨rfl,λi cs x h=>by simp at h⟩
def Cx.fzr[RawOf ρ α](i j:Nat)(c:Cx B N σ Γ Φ a w)(hi:Γ[i]? =some (SL E v rs):=by rfl)(hj:Φ[j]? =some (CS rs xs):=by rfl):Cx B N σ (rest [i] Γ) (Φ++[RO v xs]) a w:=by
 obtain⟨h,S,F,h1,h2,h3⟩:=c;have hp:=h2.part [i] (Γ1:=[SL E v rs]) aH U;obtain⟨S',F',hM,hs,hr,hfz⟩:=Sep.freeze (L:=rest [i] Γ) hp h1;have h3':=h3.sub (F':=F') λk _ hk=>hfz k hk;exact⟨h,S',F',hM,hs,h3'.add (KX (SL.rv hr) (h3'.get hj))⟩
def Eltr[RawOf ρ α]{n:Nat}{parts:Array (Nat×Operand)}(E:TypeId)(rs:List ρ)(xs:List α)(c:Cx B N σ Γ Φ a w)(hx:LitA Φ w rs xs)
  (h:∀a' c' fr w',Cx B N ((d,.slice a' xs.length c')::σ) (Γ++[SL E (.slice a' xs.length c') rs]) (Φ++[CS rs xs]) fr w'->wpFrom P ops Q (k+1) fr w')
  (ho:ops[k]? =some ⟨some d,.buildSlice t n parts,ty,pos,af,none⟩:=by rfl)(hd:Nat.blt d N=true:=by rfl)(hln:rs.length=n:=by rfl)(hmax:Nat.ble rs.length room=true:=by rfl)
  (hv:parts.toList.map (λp=>opd σ p.2)=(rs.map λx=>Rep.val ρ (Flat.enc x)).map some:=by kernel_rfl)
  (hrun:∀w,(Instr.buildSlice t n ((parts.toList.map (·.1)).zip (rs.map λx=>Rep.val ρ (Flat.enc x))).toArray).run P w= .ok (.slice (some ⟨w.heap.size,0,none⟩) n n) (w.alloc (.cells (rs.map Flat.enc).flatten.toArray E)):=by intro _;kernel_rfl):wpFrom P ops Q k a w:=by
 have c:=c.fad (Rf:=CS rs xs) λF hf=>hx.css hf;have hl:rs.length=xs.length:=by
  obtain⟨_,_,_,_,_,hf⟩:=c;simpa using(hf (CS rs xs) (Zew.2 (.inr (ZeA.2 rfl)))).1
 refine Elt E rs c (λa' c' fr w' c=>?_) ho hd hln hmax hv hrun;grind
def Eapr[RawOf ρ α](i j:Nat)(c:Cx B N σ Γ Φ a w)(hu:Ava [] Φ w (RO u ms))(hr:app? xs ms=some r)
  (h:∀(rm:List ρ)a' c' fr w',Cx B N ((d,.slice a' r.length c')::σ) (Γ.set i (SL E (.slice a' r.length c') (rs++rm))) (Φ++[CS (rs++rm) r]) fr w'->wpFrom P ops Q (k+1) fr w')(hi:Γ[i]? =some (SL E v rs):=by rfl)(hj:Φ[j]? =some (CS rs xs):=by rfl)
  (ho:ops[k]? =some ⟨some d,.call ⟨.builtin .append,#[x,y],#[t,t']⟩,ty,pos,af,none⟩:=by rfl)(htt:t'=t:=by rfl)(hd:Nat.blt d N=true:=by rfl)(he:ElT P E ρ:=by refine elT ?_;kernel_rfl)(ht:P.underlying t=some (.slice E):=by kernel_rfl)
  (hx:opd σ x=some v:=by kernel_rfl)(hy:opd σ y=some u:=by kernel_rfl):wpFrom P ops Q k a w:=by
 obtain⟨hF,S,F,hM,hs,hf⟩:=c;obtain⟨rm,g1,g2⟩:=ZbU (ρ:=ρ) (hu.ro hf);have hc:=DD (hf.get hj) g2;have hl:rs.length=xs.length:=by simpa using(hf.get hj).1
 have hl':rm.length=ms.length:=by simpa using g2.1
 obtain⟨h1,h2⟩:=app?_raw (l':=rs) (m':=rm) hr hl hl';rw[<-h2]at hc;have c:Cx B N σ Γ (Φ++[RO u rm]++[CS (rs++rm) r]) a w:=⟨hF,S,F,hM,hs,(hf.add (R:=RO u rm) g1).add (R:=CS (rs++rm) r) hc⟩;have hlen:(rs++rm).length=r.length:=by simp_all
 refine Eap i c (Ava.f Φ.length U) h1 (λa' c' fr w' c=>?_) hi ho htt hd he ht hx hy;rw[hlen]at c;refine h rm a' c' fr w' ?_;obtain⟨q1,q2,q3,q4,q5,q6⟩:=c;exact⟨q1,q2,q3,q4,q5,λR hR=>q6 R ((Zew.1 hR).elim (λh=>Zew.2 (.inl (Zew.2 (.inl h)))) λh=>Zew.2 (.inr h))⟩
def Eemr[RawOf ρ α]{n:Int}{q:α}(i j:Nat)(c:Cx B N σ Γ Φ a w)(hz:get? xs n=some q)(h:∀p u fr,Cx B N ((d2,u)::(d,p)::σ) Γ (Φ++[RO u q]) fr w->wpFrom P ops Q (k+2) fr w)(hi:Γ[i]? =some (SL E v rs):=by rfl)(hj:Φ[j]? =some (CS rs xs):=by rfl)
  (ho:ops[k]? =some ⟨some d,.indexAddr t x y,ty,pos,af,none⟩:=by rfl)(ho':ops[k+1]? =some ⟨some d2,.load t' (.tmp d),ty',pos',af',none⟩:=by rfl)(hd:Nat.blt d N=true:=by rfl)(hd':Nat.blt d2 N=true:=by rfl)
  (he:Ty P t' ρ:=by constructor<;>kernel_rfl)(ht:P.underlying t=some (.slice t'):=by kernel_rfl)(hx:opd σ x=some v:=by kernel_rfl)(hy:numOf (opd σ y)=some n:=by kernel_rfl):wpFrom P ops Q k a w:=by
 obtain⟨F0,h0⟩:=c.use (Ava.f j hj);obtain⟨q',g1,_⟩:=Cm h0 (get?_at hz);have hz':get? rs n=some q':=by simp_all[get?,Zei,get?_nn]
 refine Eel c (Ava.g i hi) hz' (λp fr c=>h p _ fr (c.fad λF hf=>?_)) ho ho' hd hd' he ht hx hy;have hc:=hf.get hj;exact⟨Flat.enc q',hc.2 _ _ q ag (get?_at hz),by grind[Rep.val,RawOf.agg]⟩
end
def Opens(P:Program)(t:TypeId)(α:Type)[Rep α](fit:α->Prop):Prop:=
 ∀(H:Type)(enc:TypeId×Value->H)(w:World)(base:Nat)(spare:Nat->Bool)(held:Bool)(fuel:Nat)(cs:List Value)(x:DataW H×List MemPlace),
  DataW.trod enc P w base spare held fuel t cs=some x->∃a:α,Rep.ok w (λk=>k<w.heap.size) cs a/\fit a
section
variable{P:Program}{t e:TypeId}
def YL(ht:P.underlying t=some (.int .i64)):Opens P t Int fitInt:=by
 intro H enc w base spare held fuel cs x h;obtain⟨n,rfl,-,hn⟩:=DataW.trod_int ht h;refine⟨n,rfl,?_⟩;simp only[Lit.wf,Zek,Zeq]at hn;exact hn
def BJ(ht:P.underlying t=some .string):Opens P t Str λs=>s.bytes.length<=9223372036854775807:=by
 intro H enc w base spare held fuel cs x h;obtain⟨⟨⟨l⟩⟩,rfl,-,hs⟩:=DataW.trod_string ht h;exact⟨⟨l⟩,rfl,hs⟩
theorem Ho{α:Type}{p:Nat->α->Prop}:∀n,(∀i,i<n->∃y,p i y)->∃l:List α,l.length=n/\∀i y,l[i]? =some y->p i y
 |0,_=>⟨[],rfl,by simp⟩
 |n+1,h=>by
  obtain⟨l,hl,hp⟩:=Ho n λi hi=>h i O;obtain⟨y,hy⟩:=h n O;refine⟨l++[y],by simp[hl],λi z hz=>?_⟩;grind
def Uu{α:Type}[Rep α]{fit:α->Prop}(ht:P.underlying t=some (.slice e))(hs:P.cellsOf e=Rep.sz α)(he:Opens P e α fit):Opens P t (List α) (fitList fit):=by
 intro H enc w base spare held fuel cs x h;rcases DataW.trod_slice ht h with⟨rfl,_⟩|⟨a,len,cap,elems',rest,n,rfl,rfl,_,hb,hl,hc,hlen,hel,_⟩
 ·exact⟨[],⟨none,0,rfl,Zes _,Zfi _,λh=>absurd rfl h⟩,Zfi _,by simp⟩
 ·have key:∀i,i<len->∃y:α,(∃cs',Rep.ok w (λk=>k<w.heap.size) cs' y/\Cells w (a.add (i*Rep.sz α)) cs')/\fit y:=by
   intro i hi;have h1:=hel i hi;obtain⟨z,hz⟩:∃z,elems'[i]? =some z:=⟨_,Zef O⟩;rw[hz,ZeV]at h1;obtain⟨cs',hc1,hc2⟩:=h1;obtain⟨y,hy,hf⟩:=he _ _ _ _ _ _ _ _ _ hc2;obtain⟨_,hl1,hc3⟩:=World.cells?_some hc1;refine⟨y,⟨cs',hy,λj u hu=>?_⟩,hf⟩;grind
  obtain⟨l,hll,hp⟩:=Ho len key;have hE:elems w (λk=>k<w.heap.size) a 0 l:=Qg λi x hx=>by simp_all
  refine⟨l,⟨some a,cap,by rw[hll],by omega,hc,λhne=>⟨a,rfl,?_,hE⟩⟩,by grind[maxLen],λx hx=>?_⟩
  ·exact KP hE hne
  grind[List.mem_iff_getElem?]
def YU{H:Type}{enc:TypeId×Value->H}{w:World}{base:Nat}{spare:Nat->Bool}{held:Bool}{n:Nat}{cs:List Value}{xs:List (DataW H×List MemPlace)}{fs:Array Field}{α:Type}[Rep α]{fit:α->Prop}
  (hf:∀(i:Nat)(f:Field),fs[i]? =some f->DataW.trod enc P w base spare held n f.type ((cs.drop f.offset).take (P.cellsOf f.type))=xs[i]?)(hx:xs.length=fs.size)(i:Nat)(f:Field)(m:Nat)(hfi:fs[i]? =some f)
  (hop:Opens P f.type α fit)(hc:P.cellsOf f.type=m):∃a:α,Rep.ok w (λk=>k<w.heap.size) ((cs.drop f.offset).take m) a/\fit a:=by
 have h1:=hf i f hfi;obtain⟨hi,-⟩:=Zey.1 hfi;rw[Zef O,hc]at h1;exact hop _ _ _ _ _ _ _ _ _ h1
def MN{H:Type}{enc:TypeId×Value->H}{w:World}{base:Nat}{spare:Nat->Bool}{held:Bool}{v:Value}{d:DataW H}{ps:List MemPlace}{fs:Array Field}{α:Type}[Rep α]{fit:α->Prop}{r:Reach}{b:Nat}
  (ht:P.underlying t=some (.struct fs))(ha:Rep.agg α=true)(hop:Opens P t α fit)(hv:Value.okWide P w r b t v)(h:DataW.Trod enc P w base spare held t v d ps):∃a:α,RV w (λk=>k<w.heap.size) v a/\fit a:=by
 obtain⟨cs,rfl,_⟩:=WideShapes.okWide_struct ht hv;obtain⟨fuel,hf⟩:=h;obtain⟨a,h1,h2⟩:=hop _ _ _ _ _ _ _ _ _ hf;exact⟨a,⟨_,h1,by simp_all[Rep.val,Value.cells]⟩,h2⟩
end
end Go.GL
end
section
namespace Go.GL
theorem Zb{x:Int}(h1:-9223372036854775808<=x:=by omega)(h2:x<=9223372036854775807:=by omega):w64 x=x:=by
 simp_all[w64,IntKind.wrap_i64]<;>grind
def ifn{c:Prop}[Decidable c]{α:Sort _}{x y:α}(h:¬c:=by first|omega|decide|simp):ite c x y=y:=Zem h
def ifp{c:Prop}[Decidable c]{α:Sort _}{x y:α}(h:c:=by first|omega|decide|simp):ite c x y=x:=Zei h
theorem Za{α:Type}(l:List α):len l=(l.length:Int):=rfl
theorem get?_nat{α:Type}{l:List α}{i:Nat}:get? l (i:Int)=l[i]?:=by
 rfl
theorem set?_nat{α:Type}{l:List α}{i:Nat}{x:α}(h:i<l.length):set? l (i:Int) x=some (l.set i x):=by
 simp_all[set?,Zei]
theorem Z5{σt ρt:Type}{B:σt->Option (σt⊕ρt)}{I:Nat->σt->Prop}{m:Nat}{r:ρt}(hs:∀k s,k<m->I k s->∃s',B s=some (.inl s')/\I (k+1) s')(hf:∀s,I m s->B s=some (.inr r)):
  ∀(d k:Nat)(s:σt),k+d=m->I k s->∀n,d<n->iterN B n s=some r
 |0,k,s,hk,hi,n,hn=>by
  obtain⟨n,rfl⟩:∃j,n=j+1:=⟨n-1,by omega⟩;simp_all[iterN]
 |d+1,k,s,hk,hi,n,hn=>by
  obtain⟨n,rfl⟩:∃j,n=j+1:=⟨n-1,by omega⟩;obtain⟨s',h1,h2⟩:=hs k s O hi;unfold iterN;rw[h1];exact Z5 hs hf d (k+1) s' O h2 n O
theorem Bg{α:Type}[DecidableEq α]{p q:List α}(hl:p.length=q.length)(hb:p.length<=9223372036854775807):∀(d i:Nat),i+d=p.length->∀n,d<n->
  iterN (λ(s1:Int)=>if(decide (s1<(len p)))then(get? p s1).bind λx1=>(get? q s1).bind λx2=>if(x1 !=x2)then some (.inr (.inr false))else some (.inl ((w64 (s1+1))))else some (.inr (.inl ()))) n (i:Int)=some (if p.drop i=q.drop i then(.inl ():Unit⊕Bool)else .inr false)
 |0,i,hi,n,hn=>by
  obtain⟨n,rfl⟩:∃j,n=j+1:=⟨n-1,by omega⟩;simp_all[iterN,Zem,Za,Zfw]
 | d+1,i,hi,n,hn=>by
  obtain⟨n,rfl⟩:∃j,n=j+1:=⟨n-1,by omega⟩;have hp:i<p.length:=by omega
  have hq:i<q.length:=by omega
  unfold iterN;rw[Zei aj,get?_nat,get?_nat,Zef hp,Zef hq];simp only[Zee];rw[Ze8 hp,Ze8 hq];by_cases h:p[i]=q[i]
  ·rw[Zem (by simp[h])];simp only;rw[Zb O O,show((i:Int)+1)=((i+1:Nat):Int) by omega,Bg hl hb d (i+1) O n O];grind
  grind
def Kb{α:Type}[DecidableEq α]{p q:List α}(hb:p.length<=9223372036854775807){n:Nat}(hn:p.length<n):
 (if((len p)!=(len q))then some false else(iterN (λ(s1:Int)=>if(decide (s1<(len p)))then(get? p s1).bind λx1=>(get? q s1).bind λx2=>if(x1 !=x2)then some (.inr (.inr false))else some (.inl ((w64 (s1+1))))else some (.inr (.inl ()))) n (0)).bind λ(rl1:(Unit)⊕Bool)=>match rl1 with|.inl _=>some true|.inr v=>some v)=some (decide (p=q)):=by
 by_cases hl:p.length=q.length
 ·rw[Zem aj,show(0:Int)=((0:Nat):Int)from rfl,Bg hl hb p.length 0 O n hn];grind
 ·rw[Zei aD];have:p≠q:=λh=>hl (by rw[h]);simp[this]
theorem mk?_len{α β:Type}{l:List α}{z:β}(h:l.length<=room):mk? (len l) z=some (List.replicate l.length z):=by
 simp_all[mk?,Za,Zei]
end Go.GL
namespace Go.GL
theorem OC{α:Type}{l:List α}{z:α}(hb:l.length<=9223372036854775807){n:Nat}(hn:l.length<n):
  iterN (λ(s1:Int×(List α))=>if(decide (s1.1<(len l)))then(get? l s1.1).bind λx2=>(set? s1.2 s1.1 x2).bind λx3=>some (.inl ((w64 (s1.1+1)),x3))else some (.inr (s1.2))) n (0,List.replicate l.length z)=some l:=by
 refine Z5 (I:=λk s=>s=((k:Int),l.take k++List.replicate (l.length-k) z)) (m:=l.length) (λk s hk hs=>?_) (λs hs=>?_) l.length 0 _ O U n hn
 ·subst hs;refine⟨_,?_,rfl⟩;rw[Zei aj,get?_nat,Zef hk];simp only[Zee];rw[set?_nat aa];simp only[Zee,Option.some.injEq,Sum.inl.injEq,Prod.mk.injEq];refine⟨by grind[Zb],?_⟩;apply ZeU;grind
 simp_all[Zem,Za]
def pre{α:Type}(f:Nat->α)(p:List α)(i:Nat):List α:=(List.range i).map f++p.drop i
theorem Gd{α:Type}{f:Nat->α}{p:List α}{i:Nat}(h:i<=p.length):(pre f p i).length=p.length:=by grind[pre]
def Kv{α:Type}{f:Nat->α}{p:List α}:pre f p 0=p:=by simp[pre]
def Hz{α:Type}{f:Nat->α}{p:List α}:pre f p p.length=(List.range p.length).map f:=by simp[pre]
def ZcQ{α:Type}{f:Nat->α}{p:List α}{i:Nat}(h:i<p.length):(pre f p i)[i]? =p[i]?:=by
 simp[pre,ZeE,Zfb]
def Gg{α:Type}{f:Nat->α}{p:List α}{i:Nat}(h:i<p.length):(pre f p i).set i (f i)=pre f p (i+1):=by
 apply ZeU;simp_all[pre,ZfK,ZfB,Zeo,Zf5,List.length_range,Zex,Zfb,ZeL,List.getElem?_range',Zgl]<;>grind
end Go.GL
namespace Go.GL
theorem Ux{σt ρt:Type}{B:σt->Option (σt⊕ρt)}{I:Nat->σt->Prop}{m:Nat}{ok:Nat->Bool}{r r':ρt}(hs:∀k s,k<m->I k s->ok k=true->∃s',B s=some (.inl s')/\I (k+1) s')(hn:∀k s,k<m->I k s->ok k=false->B s=some (.inr r'))
  (hf:∀s,I m s->B s=some (.inr r)):∀(d k:Nat)(s:σt),k+d=m->I k s->∀n,d<n->iterN B n s=some (if(List.range' k d).all ok=true then r else r')
 |0,k,s,hk,hi,n,hn'=>by
  obtain⟨n,rfl⟩:∃j,n=j+1:=⟨n-1,by omega⟩;simp_all[iterN]
 | d+1,k,s,hk,hi,n,hn'=>by
  obtain⟨n,rfl⟩:∃j,n=j+1:=⟨n-1,by omega⟩;unfold iterN;rw[Zgd];cases hok:ok k with
  |true=>
   obtain⟨s',h1,h2⟩:=hs k s O hi hok;rw[h1];simp only;rw[Ux hs hn hf d (k+1) s' O h2 n O,Zgf,hok,ZeJ]
  |false=>
   grind
end Go.GL
end
section
namespace Go.GL
open Go.RowKit
def OpensN(P:Program)(m:Nat)(t:TypeId)(α:Type)[Rep α](fit:α->Prop):Prop:=
 ∀(H:Type)(enc:TypeId×Value->H)(w:World)(base:Nat)(spare:Nat->Bool)(held:Bool)(fuel:Nat)(cs:List Value)(x:DataW H×List MemPlace),
  fuel<=m->DataW.trod enc P w base spare held fuel t cs=some x->∃a:α,Rep.ok w (λk=>k<w.heap.size) cs a/\fit a
section
variable{P:Program}{t e:TypeId}
def Opens.N{α:Type}[Rep α]{fit:α->Prop}{m:Nat}(h:Opens P t α fit):OpensN P m t α fit:=λH enc w base spare held fuel cs x _ hx=>h H enc w base spare held fuel cs x hx
def EN{α:Type}[Rep α]{fit:α->Prop}(h:∀m,OpensN P m t α fit):Opens P t α fit:=λH enc w base spare held fuel cs x hx=>h fuel H enc w base spare held fuel cs x (Zes _) hx
def Ee{α:Type}[Rep α]{fit:α->Prop}{m:Nat}(ht:P.underlying t=some (.slice e))(hs:P.cellsOf e=Rep.sz α)(he:OpensN P m e α fit):OpensN P m t (List α) (fitList fit):=by
 intro H enc w base spare held fuel cs x hm h;rcases DataW.trod_slice ht h with⟨rfl,_⟩|⟨a,len,cap,elems',rest,n,rfl,rfl,_,hb,hl,hc,hlen,hel,_⟩
 ·exact⟨[],⟨none,0,rfl,Zes _,Zfi _,λh=>absurd rfl h⟩,Zfi _,by simp⟩
 ·have key:∀i,i<len->∃y:α,(∃cs',Rep.ok w (λk=>k<w.heap.size) cs' y/\Cells w (a.add (i*Rep.sz α)) cs')/\fit y:=by
   intro i hi;have h1:=hel i hi;obtain⟨z,hz⟩:∃z,elems'[i]? =some z:=⟨_,Zef O⟩;rw[hz,ZeV]at h1;obtain⟨cs',hc1,hc2⟩:=h1;obtain⟨y,hy,hf⟩:=he _ _ _ _ _ _ _ _ _ O hc2;obtain⟨_,hl1,hc3⟩:=World.cells?_some hc1;refine⟨y,⟨cs',hy,λj u hu=>?_⟩,hf⟩;grind
  obtain⟨l,hll,hp⟩:=Ho len key;have hE:elems w (λk=>k<w.heap.size) a 0 l:=Qg λi x hx=>by simp_all
  refine⟨l,⟨some a,cap,by rw[hll],by omega,hc,λhne=>⟨a,rfl,?_,hE⟩⟩,by grind[maxLen],λx hx=>?_⟩
  ·exact KP hE hne
  grind[List.mem_iff_getElem?]
def Qb{H:Type}{enc:TypeId×Value->H}{w:World}{base:Nat}{spare:Nat->Bool}{held:Bool}{n:Nat}{cs:List Value}{xs:List (DataW H×List MemPlace)}{fs:Array Field}{α:Type}[Rep α]{fit:α->Prop}
  (hf:∀(i:Nat)(f:Field),fs[i]? =some f->DataW.trod enc P w base spare held n f.type ((cs.drop f.offset).take (P.cellsOf f.type))=xs[i]?)(hx:xs.length=fs.size)(i:Nat)(f:Field)(m:Nat)(hfi:fs[i]? =some f)
  (hop:OpensN P n f.type α fit)(hc:P.cellsOf f.type=m):∃a:α,Rep.ok w (λk=>k<w.heap.size) ((cs.drop f.offset).take m) a/\fit a:=by
 have h1:=hf i f hfi;obtain⟨hi,-⟩:=Zey.1 hfi;rw[Zef O,hc]at h1;exact hop _ _ _ _ _ _ _ _ _ (Zes _) h1
theorem DK{s n i:TypeId}{fs:Array Field}(ht:P.underlying t=some (.struct fs))(hi:P.underlying i=some (.int .i64))(hn:P.underlying n=some .string)(hs:P.underlying s=some (.slice t))(hc:P.cellsOf t=5)
  (f0:∃f,fs[0]? =some f/\f.type=i/\f.offset=0)(f1:∃f,fs[1]? =some f/\f.type=i/\f.offset=1)(f2:∃f,fs[2]? =some f/\f.type=i/\f.offset=2)(f3:∃f,fs[3]? =some f/\f.type=n/\f.offset=3)
  (f4:∃f,fs[4]? =some f/\f.type=s/\f.offset=4)(ci:P.cellsOf i=1)(cn:P.cellsOf n=1)(cs1:P.cellsOf s=1):Opens P t D.Term Xy:=by
 refine EN λm=>?_
 induction m with
 |zero=>
  intro H enc w base spare held fuel cs x hm h;obtain⟨_,n,he,_⟩:=DataW.trod_struct ht h;omega
 | succ m ih=>
  intro H enc w base spare held fuel cs x hm h;obtain⟨xs,k,rfl,-,hl,hx,hf⟩:=DataW.trod_struct ht h;rw[hc]at hl;have ih':OpensN P k s (List D.Term) (fitList Xy):=λH enc w base spare held fuel cs x hm' h=>Ee hs hc ih H enc w base spare held fuel cs x O h;obtain⟨f0,e0,t0,o0⟩:=f0;obtain⟨f1,e1,t1,o1⟩:=f1;obtain⟨f2,e2,t2,o2⟩:=f2;obtain⟨f3,e3,t3,o3⟩:=f3;obtain⟨f4,e4,t4,o4⟩:=f4;obtain⟨a0,h0,g0⟩:=Qb hf hx 0 f0 1 e0 (t0▸(YL hi).N) (by rw[t0,ci]);obtain⟨a1,h1,g1⟩:=Qb hf hx 1 f1 1 e1 (t1▸(YL hi).N) (by rw[t1,ci]);obtain⟨a2,h2,g2⟩:=Qb hf hx 2 f2 1 e2 (t2▸(YL hi).N) (by rw[t2,ci]);obtain⟨a3,h3,g3⟩:=Qb hf hx 3 f3 1 e3 (t3▸(BJ hn).N) (by rw[t3,cn]);obtain⟨a4,h4,g4⟩:=Qb hf hx 4 f4 1 e4 (t4▸ih') (by rw[t4,cs1]);rw[o0]at h0;rw[o1]at h1;rw[o2]at h2;rw[o3]at h3;rw[o4]at h4
  match cs,hl with
  | [c0,c1,c2,c3,c4],_=>
   have h0:[c0]=[_]:=h0;have h1:[c1]=[_]:=h1;have h2:[c2]=[_]:=h2;have h3:[c3]=[_]:=h3;obtain rfl:=Ze5 h0;obtain rfl:=Ze5 h1;obtain rfl:=Ze5 h2;obtain rfl:=Ze5 h3;have h4:Rep.ok w (λk=>k<w.heap.size) [c4] a4:=h4;obtain⟨b,cp,e,r1,r2,r3⟩:=h4;obtain rfl:=Ze5 e;refine⟨⟨a0,a1,a2,a3,a4⟩,show okTerm w _ _ _ from ?_,?_⟩
   ·refine⟨b,cp,rfl,r1,r2,λhne=> ?_⟩;simp_all[Rn]
   ·exact⟨g0,g1,g2,g3,g4.1,RQ.2 g4.2⟩
end
def Con.law{P:Program}{f:FuncId}{args:List Value}{Φ:List RF}{r:Bool}{w:World}{F:Nat->Prop}(hc:Con P f args [] Φ λ(_:Unit)=>([.bool r],[],[]))(hF:AllF Φ w F)(hl:∀k,F k->k<w.heap.size):
  Calls P f args.toArray w λe w'=>∃v,e= .returned v/\v= .bool r/\Chg Non w w':=by
 refine(hc w Non F (Sep.nil _ _) hF (λ_ h=>h.elim) hl (λ_ h=>h.elim)).mono ?_;rintro e w'' ⟨i,S',F',rfl,hM',_,_⟩;exact⟨_,rfl,rfl,hM'.chg⟩
def Bd{α β:Type}{e:Option α}{f:α->Option β}{r:β}{G:Prop}(h:e.bind f=some r)(k:∀x,e=some x->f x=some r->G):G:=by
 obtain⟨x,h1,h2⟩:=bindE h;simp_all
def sj{α:Type}{a b:α}(h:some a=some b):a=b:=Option.some.inj h
def kN{p q:Prop}(h:p):q->p:=λ_=>h
section
variable{P:Program}{B:Bs}{N:Nat}{σ:List (Nat×Value)}{Γ:List HP}{Φ:List RF}{a:Act}{w:World}{K:Act->World->Prop}{Q:Exit->Act->World->Prop}{ops:Array Oper}{pds:List Pd}{j:Nat}
def gT{β:Type}{X Y r:β}{g':Nat}{b:Bool}(h:(if b=true then X else Y)=r)(hgd:guardOf ops j=some (g',true):=by rfl)(hn:∃n,ops.size=n+1:=by exact⟨_,rfl⟩)(hp:(pds.getD g' .any).val? =some (.bool b):=by kernel_rfl)(hg:gc ops pds ops.size j):X=r:=iteT (gcT hg hgd hn hp) h
def gF{β:Type}{X Y r:β}{g':Nat}{b:Bool}(h:(if b=true then X else Y)=r)(hgd:guardOf ops j=some (g',false):=by rfl)(hn:∃n,ops.size=n+1:=by exact⟨_,rfl⟩)(hp:(pds.getD g' .any).val? =some (.bool b):=by kernel_rfl)(hg:gc ops pds ops.size j):Y=r:=iteF (gcF hg hgd hn hp) h
def Zf{np:Pd}{ms:List Nat}(ow:Nat->Nat)(h:Good ops pds []->pds.getD j .any=np.inst ow->NPB P true ms ops pds a w Q j)(hG:Good ops pds [])(e:pds.getD j .any=np.inst ow):NPO P ms ops pds a w Q ow j:=Zdu ow (h hG e)
theorem AllP.and{α:Type}{p:Prop}{q:α->Prop}:∀{l:List α},AllP (λx=>p->q x) l->p->AllP q l
 |[],_,_=>trivial
 |_::_,h,hp=>⟨h.1 hp,h.2.and hp⟩
def rZ{id:Nat}{draw:Bool}(np:List (Nat×Pd))(hs:List (Nat×Nat))(hmix:P.follows .mixedOrders=true)(c:Cx B N σ Γ Φ a w)
  (hnp:AllP (λp=>Good ops (pdsM P (bxsOf Γ Φ) hs ops σ np ops.size) []->(pdsM P (bxsOf Γ Φ) hs ops σ np ops.size).getD p.1 .any=p.2->NPB P draw (cond draw (masksN ops ops.size) []) ops (pdsM P (bxsOf Γ Φ) hs ops σ np ops.size) a w (Exit.then K Q) p.1) np)
  (h:∀fr w',Cx B N (outS ops σ (pdsM P (bxsOf Γ Φ) hs ops σ np ops.size) ops.size) Γ Φ fr w'->K fr w')
  (hmono:AllP (λp=>p.2.Mono Non) np:=by repeat(first|exact trivial|refine⟨by first|exact Pd.mono_eq|exact elM|exact flM|exact rdM|exact JM,?_⟩))
  (hst:(stat draw (cond draw (masksN ops ops.size) []) ops [] N&&statG ops (pdsM P (bxsOf Γ Φ) hs ops σ np ops.size) [])=true:=by kernel_rfl)
  (h1:(freeI np ops.size).map (λj=>(pureB P (bxsOf Γ Φ) hs ops σ (pdsM P (bxsOf Γ Φ) hs ops σ np ops.size) j).map (·.1))=(freeI np ops.size).map λj=>((pdsM P (bxsOf Γ Φ) hs ops σ np ops.size).getD j .any).val?:=by kernel_rfl)
  (h2:((freeI np ops.size).all λj=>((pdsM P (bxsOf Γ Φ) hs ops σ np ops.size).getD j .any).val?.isSome)=true:=by kernel_rfl)
  (h3:(freeI np ops.size).map (λj=>(pureB P (bxsOf Γ Φ) hs ops σ (pdsM P (bxsOf Γ Φ) hs ops σ np ops.size) j).map λr=>r.2.map (·.1))=(freeI np ops.size).map λj=>(pureB P (bxsOf Γ Φ) hs ops σ (pdsM P (bxsOf Γ Φ) hs ops σ np ops.size) j).map λr=>r.2.map (·.2):=by kernel_rfl):
  (Code.region id ops draw).wp P (Exit.then K Q) a w:=Rz np hs hmix c hmono (λhG=>hnp.and hG) h hst h1 h2 h3
def rM(m:Nat)(np:List (Nat×Pd))(hs:List (Nat×Nat))(c:Cx B N σ Γ Φ a w)
  (hnp:∀ow,AllP (λp=>Good ops (instL ow (pdsM P (bxsOf Γ Φ) hs ops σ np m)) []->(instL ow (pdsM P (bxsOf Γ Φ) hs ops σ np m)).getD p.1 .any=p.2.inst ow->NPO P (masksN ops ops.size) ops (instL ow (pdsM P (bxsOf Γ Φ) hs ops σ np m)) a w Q ow p.1) np)
  (h:∀ow fr w',EndM ops (TT ops (instL ow (pdsM P (bxsOf Γ Φ) hs ops σ np m))) a m fr w'->Chg Non w w'->Cx B N (outS ops σ (pdsM P (bxsOf Γ Φ) hs ops σ np m) m) Γ Φ fr w'->wpFrom P ops Q m fr w')
  (hmono:AllP (λp=>p.2.MonoO) np:=by repeat(first|exact trivial|refine⟨by first|exact Pd.monoO_eq|exact elO|exact nwM|exact flO|exact rdO|exact Pd.monoO_is JM,?_⟩))
  (hst:(stat true (masksN ops ops.size) ops [] N&&statG ops (pdsM P (bxsOf Γ Φ) hs ops σ np m) []&&sufB ops m)=true:=by kernel_rfl)
  (h1:(freeI np m).map (λj=>(pureB P (bxsOf Γ Φ) hs ops σ (pdsM P (bxsOf Γ Φ) hs ops σ np m) j).map (·.1))=(freeI np m).map λj=>((pdsM P (bxsOf Γ Φ) hs ops σ np m).getD j .any).val?:=by kernel_rfl)
  (h2:((freeI np m).all λj=>((pdsM P (bxsOf Γ Φ) hs ops σ np m).getD j .any).val?.isSome)=true:=by kernel_rfl)
  (h3:(freeI np m).map (λj=>(pureB P (bxsOf Γ Φ) hs ops σ (pdsM P (bxsOf Γ Φ) hs ops σ np m) j).map λr=>r.2.map (·.1))=(freeI np m).map λj=>(pureB P (bxsOf Γ Φ) hs ops σ (pdsM P (bxsOf Γ Φ) hs ops σ np m) j).map λr=>r.2.map (·.2):=by kernel_rfl):
  RA P ops Q a w:=Rm m np hs c hmono (λow hG=>(hnp ow).and hG) h hst h1 h2 h3
abbrev Pd.l0:Pd:=.is λv _=>∃b,v= .slice b 0 0
def Nl0{draw:Bool}{ms:List Nat}{dst:Option Tmp}{t ty:TypeId}{pos:String}{af:Array Edge}{g:Option (Nat×Bool)}(E:TypeId)(c:Cx B N σ Γ Φ a w)(ho:ops[j]? =some ⟨dst,.buildSlice t 0 #[],ty,pos,af,g⟩:=by rfl)
  (hrun:∀w,(Instr.buildSlice t 0 #[]).run P w= .ok (.slice (some ⟨w.heap.size,0,none⟩) 0 0) (w.alloc (.cells #[] E)):=by intro _;kernel_rfl)(hG:Good ops pds [])(hpd:pds.getD j .any= .is λv _=>∃b,v= .slice b 0 0):NPB P draw ms ops pds a w Q j:=ZcC hG c.fr ho hrun hpd
def Nap0{ow:Nat->Nat}{ms:List Nat}{dst:Option Tmp}{t t' ty:TypeId}{pos:String}{af:Array Edge}{g:Option (Nat×Bool)}{y:Operand}{α:Type}[Flat α]{E:TypeId}{s:Nat}{u:Value}{m r:List α}(c:Cx B N σ Γ Φ a w)(i:Nat)(hpi:pds.getD i .any= .is λv _=>∃b,v= .slice b 0 0)(hl:Ava Γ Φ w (RO u m))(hr:gc ops pds ops.size j->app? ([]:List α) m=some r)
  (ho:ops[j]? =some ⟨dst,.call ⟨.builtin .append,#[.tmp s,y],#[t,t']⟩,ty,pos,af,g⟩:=by rfl)(htt:t'=t:=by rfl)(hj:Nat.blt j ops.size=true:=by rfl)(hlw:lastW ops s j=some i:=by rfl)(hok:okG ops ops.size j i=true:=by rfl)(ht:P.underlying t=some (.slice E):=by kernel_rfl)(hE:ElT P E α:=by refine elT ?_;kernel_rfl)
  (hy:envP ops σ pds j y=some u:=by kernel_rfl)(hG:Good ops pds [])(hpd:pds.getD j .any= .is λv w'=>∃i:Option Addr×Nat,v= .slice i.1 (List.length r) i.2/\(SL E (.slice i.1 (List.length r) i.2) r).ok w' (λk=>w.heap.size<=k/\k<w'.heap.size/\ow k=j)):NPO P ms ops pds a w Q ow j:=by
 obtain⟨F,hl⟩:=c.use hl;exact Zc5 hG c.fr ht hE ho htt hj hlw hok hpi hy hl hr hpd
theorem Nln{draw:Bool}{ms:List Nat}{dst:Option Tmp}{t ty:TypeId}{pos:String}{af:Array Edge}{g:Option (Nat×Bool)}{κ:Type}{V:κ->Value}{H:κ->HP}{wd:World}{tag n s:Nat}{ow:Nat->Nat}(c:Cx B N σ Γ Φ a w)(i:Nat)(hpi:pds.getD i .any=(Pd.nw wd tag V H).inst ow)(hV:∀x,∃b cp,V x= .slice b n cp:=by exact λx=>⟨x.1,x.2,rfl⟩)
  (ho:ops[j]? =some ⟨dst,.call ⟨.builtin .len,#[.tmp s],#[t]⟩,ty,pos,af,g⟩:=by rfl)(hj:Nat.blt j ops.size=true:=by rfl)(hl:lastW ops s j=some i:=by rfl)(hok:okG ops ops.size j i=true:=by rfl)(ht:(P.underlying t).map (λu=>match u with|.slice _=>true|_=>false)=some true:=by kernel_rfl)(hG:Good ops pds [])(hpd:pds.getD j .any= .eq (.int .i64 (n:Int))):NPB P draw ms ops pds a w Q j:=
 RU _ ho hG c.fr λa' w' _ hg _ hk=>by
  have h:=Qy hG hj hl hok hg (hk s aL);rw[hpi]at h;obtain⟨x,hv,_⟩:=h;obtain⟨b,cp,hx⟩:=hV x;rw[hx]at hv;refine Zh (v:=.int .i64 (n:Int)) (w':=w') ?_ ak;have ht':∃E,P.underlying t=some (.slice E):=by
   cases h:P.underlying t with
   |none=>simp_all
   |some u=>
    grind
  obtain⟨E,ht'⟩:=ht';simp[execOp,resolve,invoke,builtin,Builtin.len_,run_underlying ht',hv,goInt]
def EA(α:Type)[Rep α](v:Value)(n:Int)(p:Addr)(u:Value):RF where
 ok w F:=(∃ad len cap,v= .slice (some ad) len cap/\p=ad.add (n.toNat*Rep.sz α)/\0<=n/\n<(len:Int))/\∃cs,u=Rep.val α cs/\cs.length=Rep.sz α/\Cells w p cs/\F p.block/\p.block<w.heap.size
 sub h hs:=⟨h.1,h.2.imp λ_ h=>⟨h.1,h.2.1,h.2.2.1,hs _ h.2.2.2.2 h.2.2.2.1,h.2.2.2.2⟩⟩
 chg h hc ht:=⟨h.1,h.2.imp λ_ h=>⟨h.1,h.2.1,h.2.2.1.keep λ_=>hc.block _ h.2.2.2.2 (ht _ h.2.2.2.1),h.2.2.2.1,Zeu h.2.2.2.2 hc.size⟩⟩
def Cx.elp{α:Type}[Rep α]{v:Value}{l:List α}{n:Int}{x:α}(c:Cx B N σ Γ Φ a w)(hl:Ava [] Φ w (RO v l))(hx:get? l n=some x):∃p u,Cx B N σ Γ (Φ++[EA α v n p u,RO u x]) a w:=by
 obtain⟨hF,S,F,h1,h2,h3⟩:=c;have hr:RV w F v l:=hl.ro h3;obtain⟨b,cap,rfl,g1,g2,g3⟩:=hr.slice;have hn:=get?_nn hx;have hat:=get?_at hx;have hlt:n.toNat<l.length:=(Zej.1 hat).1;obtain⟨ad,rfl,hFb,hel⟩:=g3 an;obtain⟨cs,hok,hc⟩:=Tk hel hat;have hc:Cells w (ad.add (n.toNat*Rep.sz α)) cs:=by simp_all
 have hne:cs≠[]:=by
  have h4:=Rep.len hok;grind[Rep.pos]
 have hb:(ad.add (n.toNat*Rep.sz α)).block<w.heap.size:=hc.lt hne;exact⟨ad.add (n.toNat*Rep.sz α),Rep.val α cs,hF,S,F,h1,h2,h3.join (AllF.of [EA α _ n _ _,RO _ x] ⟨⟨⟨ad,_,_,rfl,rfl,hn,by omega⟩,cs,rfl,Rep.len hok,hc,by simp_all[add_block],hb⟩,⟨cs,hok,rfl⟩,trivial⟩)⟩
def Nie{draw:Bool}{ms:List Nat}{dst:Option Tmp}{t ty:TypeId}{pos:String}{af:Array Edge}{g:Option (Nat×Bool)}{x y:Operand}{α:Type}[Rep α]{e:TypeId}{v u:Value}{n:Int}{p:Addr}(c:Cx B N σ Γ Φ a w)(k:Nat)(hk:Φ[k]? =some (EA α v n p u):=by rfl)
  (ho:ops[j]? =some ⟨dst,.indexAddr t x y,ty,pos,af,g⟩:=by rfl)(ht:P.underlying t=some (.slice e):=by rfl)(he:Ty P e α:=by constructor<;>kernel_rfl)(hx:envP ops σ pds j x=some v:=by kernel_rfl)(hy:numOf (envP ops σ pds j y)=some n:=by kernel_rfl)(hG:Good ops pds [])(hpd:pds.getD j .any= .eq (.pointer (some p))):NPB P draw ms ops pds a w Q j:=by
 obtain⟨F,⟨ad,len,cap,rfl,rfl,hn,hlt⟩,_⟩:=c.use (Ava.f k hk);obtain⟨kd,hy⟩:=Yl hy;refine RU _ ho hG c.fr λa' w' _ hg hv _=>?_;have h1:=hv x _ ai hx;have h2:=hv y _ ai hy;refine Zh (v:=.pointer (some (ad.add (n.toNat*Rep.sz α)))) (w':=w') ?_ ak;simp[execOp,Instr.indexAt,h1,h2,asIntOf,run_underlying ht,hn,hlt,he.sizeOf]
def Nle{draw:Bool}{ms:List Nat}{dst:Option Tmp}{t ty:TypeId}{pos:String}{af:Array Edge}{g:Option (Nat×Bool)}{x:Operand}{α:Type}[Rep α]{v u:Value}{n:Int}{p:Addr}(c:Cx B N σ Γ Φ a w)(k:Nat)(hk:Φ[k]? =some (EA α v n p u):=by rfl)
  (ho:ops[j]? =some ⟨dst,.load t x,ty,pos,af,g⟩:=by rfl)(ht:Ty P t α:=by constructor<;>kernel_rfl)(hx:envP ops σ pds j x=some (.pointer (some p)):=by kernel_rfl)(hG:Good ops pds [])(hpd:pds.getD j .any= .eq u):NPB P draw ms ops pds a w Q j:=by
 obtain⟨F,_,cs,rfl,hl,hc,_⟩:=c.use (Ava.f k hk);refine RU _ ho hG c.fr λa' w' hC hg hv _=>?_;have h1:=hv x _ ai hx;refine Zh (v:=Rep.val α cs) (w':=w') ?_ ak;simp[execOp,Instr.loadAt,h1,Instr.sureAddr,YO ht hl (hc.ext hC)]
theorem Nlc{draw:Bool}{ms:List Nat}{dst:Option Tmp}{t ty:TypeId}{pos:String}{af:Array Edge}{g:Option (Nat×Bool)}{x:Operand}{α:Type}[Rep α]{v u z:Value}{n:Int}{p:Addr}(c:Cx B N σ Γ Φ a w)(k off:Nat)(hk:Φ[k]? =some (EA α v n p u):=by rfl)(hz:u.cells.toList[off]? =some z:=by rfl)(hag:Rep.agg α=true:=by rfl)
  (ho:ops[j]? =some ⟨dst,.load t x,ty,pos,af,g⟩:=by rfl)(ht:Ty P t Int:=by constructor<;>kernel_rfl)(hx:envP ops σ pds j x=some (.pointer (some (p.add off))):=by kernel_rfl)(hG:Good ops pds [])(hpd:pds.getD j .any= .eq z):NPB P draw ms ops pds a w Q j:=by
 obtain⟨F,_,cs,rfl,hl,hc,_⟩:=c.use (Ava.f k hk);have hz':cs[off]? =some z:=by
  simp_all[Rep.val,Zei,Value.cells]
 have hc1:Cells w (p.add off) [z]:=λi q' hq=>by
  cases i with
  |zero=>
   simp only[Zfs,Option.some.injEq]at hq;subst hq;exact hc off z hz'
  |succ i=>simp at hq
 refine RU _ ho hG c.fr λa' w' hC hg hv _=>?_;have h1:=hv x _ ai hx;refine Zh (v:=z) (w':=w') ?_ ak;have:=YO ht (cs:=[z]) rfl (hc1.ext hC);have hv':Rep.val Int [z]=z:=rfl;simp_all[execOp,Instr.loadAt,Instr.sureAddr]
def Cx.csl{ρ α:Type}[Flat ρ][Rep α][RawOf ρ α](rs:List ρ)(xs:List α)(c:Cx B N σ Γ Φ a w)(hx:LitA Φ w rs xs):Cx B N σ Γ (Φ++[CS rs xs]) a w:=c.fad (Rf:=CS rs xs) λF hf=>hx.css hf
def Cx.rk{σ':List (Nat×Value)}{Γ':List HP}{Φ':List RF}(c:Cx B N σ Γ Φ a w)(gs fs:List Nat)(hg:gs.map (λi=>Γ[i]?)=Γ'.map some:=by kernel_rfl)(hf:fs.map (λi=>Φ[i]?)=Φ'.map some:=by kernel_rfl)
  (hn:gs.Nodup:=by decide)(hσ:σ'.map (λp=>σ.lookup p.1)=σ'.map λp=>some p.2:=by kernel_rfl):Cx B N σ' Γ' Φ' a w:=c.re gs fs hg hf hn hσ
def Jn{x:Code}{ι:Type}(J:ι->Lpt)(c:Cx B N σ Γ Φ a w)(h1:x.wp P (λe a' w'=>e= .normal/\∃i,CxL B N Γ Φ (J i) a' w') a w)(h2:∀i a' w',CxL B N Γ Φ (J i) a' w'->K a' w'):x.wp P (Exit.then K Q) a w:=
 wp_mono h1 λe a' w'⟨he,i,hi⟩=>by subst he;exact h2 i a' w' hi
theorem Jr{x:Code}{ρ1 ρ2 κ:Type}{F:Option (ρ1⊕ρ2)}{r:ρ1⊕ρ2}(M:ρ1->κ->Lpt)(hit:F=some r)(c:Cx B N σ Γ Φ a w)(h1:F=some r->x.wp P (Exit.then (λa' w'=>∃s k,r= .inl s/\CxL B N Γ Φ (M s k) a' w') Q) a w)(cont:∀s k a' w',r= .inl s->CxL B N Γ Φ (M s k) a' w'->K a' w'):x.wp P (Exit.then K Q) a w:=
 wp_mono (h1 hit) λe a' w' he=>by
  cases e with
  |normal=>obtain⟨s,k,h1,h⟩:=he;exact cont s k a' w' h1 h
  |_=>exact he
def nN{ι:Type}{J:ι->Lpt}{Γ0:List HP}{Φ0:List RF}(i:ι)(c:CxL B N Γ0 Φ0 (J i) a w):Exit.normal= .normal/\∃i,CxL B N Γ0 Φ0 (J i) a w:=⟨rfl,i,c⟩
end
abbrev I(x:Int):Value:=.int .i64 x
abbrev L{α:Type}(a:Option Addr)(l:List α)(c:Nat):Value:=.slice a (List.length l) c
abbrev B(b n:Nat):Value:=.pointer (some ⟨b,n,none⟩)
abbrev Oh:=Option Addr×Nat
abbrev Ob(α:Type):=Option Addr×Nat×α
abbrev lR{α:Type}[Rep α](a:Option Addr)(l:List α)(c:Nat):RF:=RO (L a l c) l
abbrev tV(x:D.Term)(a:Option Addr)(c:Nat):Value:=.agg #[I x.Op,I x.W,I x.N,Str.val x.Name,L a x.Kids c]
abbrev tC(x:D.Term)(a:Option Addr)(c:Nat):List Value:=[I x.Op,I x.W,I x.N,Str.val x.Name,L a x.Kids c]
abbrev tR(x:D.Term)(a:Option Addr)(c:Nat):Rw.Term:=Rw.Term.mk x.Op x.W x.N x.Name ⟨a,List.length x.Kids,c⟩
abbrev tZ:List Value:=[I 0,I 0,I 0,Str.val ⟨[]⟩,L none ([]:List D.Term) 0]
abbrev pV(x:D.Path)(a:Option Addr)(c:Nat)(a1:Option Addr)(c1:Nat)(a2:Option Addr)(c2:Nat)(a3:Option Addr)(c3:Nat)(a4:Option Addr)(c4:Nat)(a5:Option Addr)(c5:Nat):Value:=
 .agg #[I x.Pc,L a x.Regs c,L a1 x.Mem c1,L a2 x.Stack c2,I x.In,L a3 x.Out c3,I x.Code,I x.Steps,L a4 x.Cond c4,L a5 x.Turns c5]
abbrev pC(x:D.Path)(a:Option Addr)(c:Nat)(a1:Option Addr)(c1:Nat)(a2:Option Addr)(c2:Nat)(a3:Option Addr)(c3:Nat)(a4:Option Addr)(c4:Nat)(a5:Option Addr)(c5:Nat):List Value:=
 [I x.Pc,L a x.Regs c,L a1 x.Mem c1,L a2 x.Stack c2,I x.In,L a3 x.Out c3,I x.Code,I x.Steps,L a4 x.Cond c4,L a5 x.Turns c5]
abbrev pZ:List Value:=[I 0,L none ([]:List D.Term) 0,L none ([]:List D.Term) 0,L none ([]:List Int) 0,I 0,L none ([]:List D.Term) 0,I 0,I 0,L none ([]:List D.Term) 0,L none ([]:List Int) 0]
abbrev gV(x:D.Program)(a:Option Addr)(c:Nat):Value:=.agg #[I x.W,I x.Mem,I x.In,L a x.Code c]
abbrev gC(x:D.Program)(a:Option Addr)(c:Nat):List Value:=[I x.W,I x.Mem,I x.In,L a x.Code c]
abbrev nV(x:D.Ins):Value:=.agg #[I x.Op,I x.A,I x.B,I x.C]
abbrev nC(x:D.Ins):List Value:=[I x.Op,I x.A,I x.B,I x.C]
abbrev vC(x:D.Value):List Value:=[Str.val x.Name,I x.W,I x.N]
abbrev Hp:=Ob (Ob (Ob (Ob (Ob Oh))))
abbrev pJ(x:D.Path)(i:Hp):Value:=pV x i.1 i.2.1 i.2.2.1 i.2.2.2.1 i.2.2.2.2.1 i.2.2.2.2.2.1 i.2.2.2.2.2.2.1 i.2.2.2.2.2.2.2.1 i.2.2.2.2.2.2.2.2.1 i.2.2.2.2.2.2.2.2.2.1 i.2.2.2.2.2.2.2.2.2.2.1 i.2.2.2.2.2.2.2.2.2.2.2
abbrev pM(x:D.Path)(i:Hp):List Value:=pC x i.1 i.2.1 i.2.2.1 i.2.2.2.1 i.2.2.2.2.1 i.2.2.2.2.2.1 i.2.2.2.2.2.2.1 i.2.2.2.2.2.2.2.1 i.2.2.2.2.2.2.2.2.1 i.2.2.2.2.2.2.2.2.2.1 i.2.2.2.2.2.2.2.2.2.2.1 i.2.2.2.2.2.2.2.2.2.2.2
abbrev bN(n m:Nat):Array Bool:=((List.range n).map λi=>Nat.testBit m i).toArray
abbrev _root_.Prod.p2{a b c d:Type}(X:a×b×c×d):=X.2.2.1
abbrev _root_.Prod.q2{a b c:Type}(X:a×b×c):=X.2.2
abbrev _root_.Prod.p3{a b c d e:Type}(X:a×b×c×d×e):=X.2.2.2.1
abbrev _root_.Prod.q3{a b c d:Type}(X:a×b×c×d):=X.2.2.2
abbrev _root_.Prod.p4{a b c d e f:Type}(X:a×b×c×d×e×f):=X.2.2.2.2.1
abbrev _root_.Prod.q4{a b c d e:Type}(X:a×b×c×d×e):=X.2.2.2.2
abbrev _root_.Prod.p5{a b c d e f g:Type}(X:a×b×c×d×e×f×g):=X.2.2.2.2.2.1
abbrev _root_.Prod.q5{a b c d e f:Type}(X:a×b×c×d×e×f):=X.2.2.2.2.2
abbrev _root_.Prod.p6{a b c d e f g h:Type}(X:a×b×c×d×e×f×g×h):=X.2.2.2.2.2.2.1
abbrev _root_.Prod.q6{a b c d e f g:Type}(X:a×b×c×d×e×f×g):=X.2.2.2.2.2.2
abbrev _root_.Prod.p7{a b c d e f g h i:Type}(X:a×b×c×d×e×f×g×h×i):=X.2.2.2.2.2.2.2.1
abbrev _root_.Prod.p8{a b c d e f g h i j:Type}(X:a×b×c×d×e×f×g×h×i×j):=X.2.2.2.2.2.2.2.2.1
abbrev _root_.Prod.p9{a b c d e f g h i j k:Type}(X:a×b×c×d×e×f×g×h×i×j×k):=X.2.2.2.2.2.2.2.2.2.1
abbrev _root_.Prod.p10{a b c d e f g h i j k l:Type}(X:a×b×c×d×e×f×g×h×i×j×k×l):=X.2.2.2.2.2.2.2.2.2.2.1
abbrev _root_.Prod.p11{a b c d e f g h i j k l m:Type}(X:a×b×c×d×e×f×g×h×i×j×k×l×m):=X.2.2.2.2.2.2.2.2.2.2.2.1
abbrev _root_.Prod.q11{a b c d e f g h i j k l:Type}(X:a×b×c×d×e×f×g×h×i×j×k×l):=X.2.2.2.2.2.2.2.2.2.2.2
abbrev _root_.Prod.p12{a b c d e f g h i j k l m n:Type}(X:a×b×c×d×e×f×g×h×i×j×k×l×m×n):=X.2.2.2.2.2.2.2.2.2.2.2.2.1
abbrev _root_.Prod.q13{a b c d e f g h i j k l m n:Type}(X:a×b×c×d×e×f×g×h×i×j×k×l×m×n):=X.2.2.2.2.2.2.2.2.2.2.2.2.2
abbrev t0(x:D.Term):D.Term:=D.Term.mk x.Op x.W x.N x.Name ([]:List D.Term)
abbrev hd{α:Type}(a:Option Addr)(l:List α)(c:Nat):Hd:=⟨a,List.length l,c⟩
abbrev h0:Hd:=⟨none,List.length ([]:List D.Term),0⟩
abbrev L0:Value:=L none ([]:List D.Term) 0
abbrev u0(x:D.Term):Rw.Term:=Rw.Term.mk x.Op x.W x.N x.Name h0
def tt:True:=trivial
def l1{α:Type}(x y:α)(l:List α):(x::l).set 0 y=y::l:=rfl
def l2{α:Type}(x y:α)(l:List α)(n:Nat):(x::l).set (n+1) y=x::l.set n y:=rfl
def l3{α:Type}(x:α)(l m:List α):(x::l)++m=x::(l++m):=rfl
def l4{α:Type}(l:List α):[]++l=l:=rfl
def l5{α:Type}(l m n:List α):(l++m)++n=l++(m++n):=Zez l m n
def l6{α:Type}(l:List α):l++[]=l:=ZeM l
theorem l7(Γ:List HP):rest [] Γ=Γ:=by
 unfold rest;generalize 0=j
 induction Γ generalizing j with
 |nil=>rfl
 |cons x l ih=>show x::restG [] (j+1) l=_;rw[ih]
theorem UM(gs:List Nat):∀(l:List HP)(j:Nat),restG (gs.map (· +1)) (j+1) l=restG gs j l
 |[],_=>rfl
 | x::l,j=>by
  have e:memN (gs.map (· +1)) (j+1)=memN gs j:=by
   simp[Lu,ZeQ,List.contains_cons]
  unfold restG;rw[e,UM gs l (j+1)]
theorem r0(x:HP)(l:List HP):rest [0] (x::l)=l:=by
 have h:∀(l:List HP)(j:Nat),restG [0] (j+1) l=l:=by
  intro l
  induction l with
  |nil=>intro _;rfl
  |cons y l ih=>intro j;show y::restG [0] (j+1+1) l=_;rw[ih]
 exact h l 0
def r1(x:HP)(l:List HP)(n:Nat):rest [n+1] (x::l)=x::rest [n] l:=congrArg (x:: ·) (UM [n] l 0)
def r2(x:HP)(l:List HP)(n m:Nat):rest [n+1,m+1] (x::l)=x::rest [n,m] l:=congrArg (x:: ·) (UM [n,m] l 0)
theorem r3(x:HP)(l:List HP)(m:Nat):rest [0,m+1] (x::l)=rest [m] l:=by
 have h:∀(l:List HP)(j:Nat),restG [0,m+1] (j+1) l=restG [m+1] (j+1) l:=by
  intro l
  induction l with
  |nil=>intro _;rfl
  |cons y l ih=>intro j;show cond (memN [m+1] (j+1)) _ _=cond (memN [m+1] (j+1)) _ _;simp_all
 exact(h l 0).trans (UM [m] l 0)
theorem LU(gs:List Nat)(l:List HP)(j:Nat):restG (0::gs.map (· +1)) (j+1) l=restG gs j l:=by
 have h:∀(l:List HP)(j:Nat),restG (0::gs.map (· +1)) (j+1) l=restG (gs.map (· +1)) (j+1) l:=by
  intro l
  induction l with
  |nil=>intro _;rfl
  |cons y l ih=>intro j;show cond (memN (gs.map (· +1)) (j+1)) _ _=cond (memN (gs.map (· +1)) (j+1)) _ _;simp_all
 simp_all[trans,UM]
def r4(x:HP)(l:List HP)(a b c:Nat):rest [a+1,b+1,c+1] (x::l)=x::rest [a,b,c] l:=congrArg (x:: ·) (UM [a,b,c] l 0)
def r5(x:HP)(l:List HP)(b c:Nat):rest [0,b+1,c+1] (x::l)=rest [b,c] l:=LU [b,c] l 0
def r6(x:HP)(l:List HP)(a b c d:Nat):rest [a+1,b+1,c+1,d+1] (x::l)=x::rest [a,b,c,d] l:=congrArg (x:: ·) (UM [a,b,c,d] l 0)
def r7(x:HP)(l:List HP)(b c d:Nat):rest [0,b+1,c+1,d+1] (x::l)=rest [b,c,d] l:=LU [b,c,d] l 0
def r8(x:HP)(l:List HP)(a b c d e:Nat):rest [a+1,b+1,c+1,d+1,e+1] (x::l)=x::rest [a,b,c,d,e] l:=congrArg (x:: ·) (UM [a,b,c,d,e] l 0)
def r9(x:HP)(l:List HP)(b c d e:Nat):rest [0,b+1,c+1,d+1,e+1] (x::l)=rest [b,c,d,e] l:=LU [b,c,d,e] l 0
def rA(x:HP)(l:List HP)(a b c d e f:Nat):rest [a+1,b+1,c+1,d+1,e+1,f+1] (x::l)=x::rest [a,b,c,d,e,f] l:=congrArg (x:: ·) (UM [a,b,c,d,e,f] l 0)
def rB(x:HP)(l:List HP)(b c d e f:Nat):rest [0,b+1,c+1,d+1,e+1,f+1] (x::l)=rest [b,c,d,e,f] l:=LU [b,c,d,e,f] l 0
def kk{P:Program}{t:TypeId}{α:Type}[Rep α](h1:(P.info? t).map (·.size)=some (Rep.sz α):=by kernel_rfl)
  (h2:(match P.underlying t with|some (.struct _)=>true|some (.array _ _)=>true|some _=>false|none=>!(Rep.agg α))=Rep.agg α:=by kernel_rfl):Ty P t α:=⟨h1,h2⟩
theorem Zdp{ops:Array Oper}{pds:List Pd}:∀(n j:Nat),gc ops pds n j->gc ops pds (n+1) j
 |0,_,h=>h.elim
 | n+1,j,h=>by
  unfold gc at h⊢;cases hg:guardOf ops j with
  |none=>trivial
  |some q=>
   rw[hg]at h;exact⟨Zdp n q.1 h.1,h.2⟩
section
variable{P:Program}{B:Bs}{N:Nat}{σ:List (Nat×Value)}{Γ:List HP}{Φ Φ1:List RF}{a:Act}{w:World}{Q:Exit->Act->World->Prop}{ι:Type}{R:ι->Res}{args:List Value}{f:FuncId}
variable{ops:Array Oper}{k d:Nat}{ty:TypeId}{xs:Array Operand}{ts:Array TypeId}{pos:String}{af:Array Edge}
def Cb(c:Cx B N σ Γ Φ a w)(hcon:Con P f args [] Φ1 R)(ro:AvaL Γ Φ w Φ1)(hf:∀(args:Array Value)(w:World),(callFunc f args).run P w= .ok (.enter f args) w)
  (h:∀i fr w',Cx B N ((d,tup (R i).1)::σ) (Γ++(R i).2.1) Φ fr w'->wpFrom P ops Q (k+1) fr w')
  (ho:ops[k]? =some ⟨some d,.call ⟨.value (.func f),xs,ts⟩,ty,pos,af,none⟩:=by rfl)(hd:Nat.blt d N=true:=by rfl)
  (hargs:xs.toList.map (opd σ)=args.map some:=by kernel_rfl):wpFrom P ops Q k a w:=
 Ca [] c hcon (by simp_all[l7]) hf (λi fr w' c=>h i fr w' (by simp_all[l7])) ho hd rfl Zgz hargs
def Cg(c:Cx B N σ Γ Φ a w)(hcon:Con P f args [] Φ1 R)(ro:AvaL [] Φ w Φ1)(hf:∀(args:Array Value)(w:World),(callFunc f args).run P w= .ok (.enter f args) w)
  (h:∀i fr w',Cx B N ((d,tup (R i).1)::σ) (Γ++(R i).2.1) (Φ++(R i).2.2) fr w'->wpFrom P ops Q (k+1) fr w')
  (ho:ops[k]? =some ⟨some d,.call ⟨.value (.func f),xs,ts⟩,ty,pos,af,none⟩:=by rfl)(hd:Nat.blt d N=true:=by rfl)
  (hargs:xs.toList.map (opd σ)=args.map some:=by kernel_rfl):wpFrom P ops Q k a w:=
 Cf [] c hcon ro hf (λi fr w' c=>h i fr w' (by simp_all[l7])) ho hd rfl Zgz hargs
end
section
variable{P:Program}{B:Bs}{N:Nat}{σ:List (Nat×Value)}{Γ Γ':List HP}{Φ Φ':List RF}{a:Act}{w:World}
def Cx.nf(c:Cx B N σ Γ Φ a w)(h:Γ=Γ':=by first|(simp only[id_eq,ZeQ,ZgD,l1,l2,l3,l4,l5,l6,l7,r0,r1,r2,r3,r4,r5,r6,r7,r8,r9,rA,rB];rfl)|rfl):Cx B N σ Γ' Φ a w:=h▸c
def Cx.ng(c:Cx B N σ Γ Φ a w)(h:Γ=Γ':=by first|(simp only[id_eq,ZeQ,ZgD,l1,l2,l3,l4,l5,l6,l7,r0,r1,r2,r3,r4,r5,r6,r7,r8,r9,rA,rB];rfl)|rfl)(h':Φ=Φ':=by first|(simp only[l3,l4,l5,l6];rfl)|rfl):Cx B N σ Γ' Φ' a w:=h▸h'▸c
end
def rE{p:Prop}(h:p:=by(first|obtain rfl:=sj h|cases h);refine wp_ret ?_;(repeat(first|with_reducible refine tr ?_|with_reducible refine br ?_));exact Rt c () [] []):p:=h
def gU{ops:Array Oper}{pds:List Pd}{j:Nat}(g:Nat)(h:gc ops pds ops.size j)(hgd:∃b,guardOf ops j=some (g,b):=by exact⟨_,rfl⟩)(hn:∃n,ops.size=n+1:=by exact⟨_,rfl⟩):gc ops pds ops.size g:=by
 grind[gc,Zdp]
def sk{α:Type}{a b:α}(h:some a=some b):b=a:=(Option.some.inj h).symm
def OD{R α:Type}[Flat R](own:R->α->HP)(E:TypeId)(v:Value)(xs:List α):HP:=.ex λrs:List R=>.two (SL E v rs) (.all own rs xs)
section
variable{R α:Type}[Flat R]{own own':R->α->HP}{E:TypeId}{v:Value}{rs:List R}{xs:List α}{w:World}{A:Nat->Prop}
def OD.len(h:(OD own E v xs).ok w A):∃a c,v= .slice a xs.length c:=by
 obtain⟨rs,h⟩:=h;grind[Zba]
def OD.rv[Rep α](ho:Owns own)(h:(OD own E v xs).ok w A):RV w A v xs:=by
 obtain⟨rs,h⟩:=h;grind[HY]
def OD.nil(own:R->α->HP)(E:TypeId)(w:World):(OD own E (.slice none 0 0) []).ok w Non:=⟨[],PT (.inr ⟨rfl,none,rfl⟩) trivial⟩
omit [Flat R]in
theorem Hu(hi:∀r x A,(own r x).ok w A->(own' r x).ok w A):∀{rs:List R}{xs:List α}{A:Nat->Prop},(HP.all own rs xs).ok w A->(HP.all own' rs xs).ok w A
 |[],[],_,h=>h
 |[],_::_,_,h=>h.elim
 |_::_,[],_,h=>h.elim
 |_::_,_::_,_,h=>PV (λ_ h=>hi _ _ _ h) (λ_ h=>Hu hi h) h
def OD.imp(hi:∀r x A,(own r x).ok w A->(own' r x).ok w A)(h:(OD own E v xs).ok w A):(OD own' E v xs).ok w A:=by
 obtain⟨rs,h⟩:=h;exact⟨rs,PV (λ_ h=>h) (λ_ h=>Hu hi h) h⟩
end
def ownTn(E:TypeId):Nat->Rw.Term->D.Term->HP
 |0,_,_=>.pure False
 |n+1,r,t=>.two (.pure (r.Op=t.Op/\r.W=t.W/\r.N=t.N/\r.Name=t.Name)) (OD (ownTn E n) E r.Kids.v t.Kids)
def ownT(E:TypeId)(r:Rw.Term)(t:D.Term):HP:=.ex λn=>ownTn E n r t
section
variable{E:TypeId}{r:Rw.Term}{t:D.Term}{w:World}{A:Nat->Prop}
theorem Es{w:World}:∀(n:Nat)(r:Rw.Term)(t:D.Term)(A:Nat->Prop),(ownTn E n r t).ok w A->(ownTn E (n+1) r t).ok w A
 |0,_,_,_,h=>h.elim
 |n+1,_,_,_,h=>PV (λ_ h=>h) (λ_ h=>OD.imp (Es n) h) h
theorem Ej{w:World}{m n:Nat}(h:n<=m){r:Rw.Term}{t:D.Term}{A:Nat->Prop}(ht:(ownTn E n r t).ok w A):(ownTn E m r t).ok w A:=by
 induction h with
 |refl=>exact ht
 |step _ ih=>simp_all[Es]
theorem Zbg{w:World}:∀{rs:List Rw.Term}{xs:List D.Term}{A:Nat->Prop},(HP.all (ownT E) rs xs).ok w A->∃n,(HP.all (ownTn E n) rs xs).ok w A
 |[],[],_,h=>⟨0,h⟩
 |[],_::_,_,h=>h.elim
 |_::_,[],_,h=>h.elim
 |r::rs,x::xs,A,⟨B,C,⟨n,h1⟩,h2,h3,h4⟩=>by
  obtain⟨m,h2⟩:=Zbg h2;exact⟨max n m,B,C,Ej (Nat.le_max_left _ _) h1,Hu (λ_ _ _ h=>Ej (Nat.le_max_right _ _) h) h2,h3,h4⟩
theorem Ji:(ownT E r t).ok w A↔(r.Op=t.Op/\r.W=t.W/\r.N=t.N/\r.Name=t.Name)/\(OD (ownT E) E r.Kids.v t.Kids).ok w A:=by
 constructor
 ·rintro⟨n,h⟩;cases n with
  |zero=>exact h.elim
  |succ n=>
   have h1:=Tu h;have h2:=SC h;exact⟨h2,OD.imp (λ_ _ _ h=>⟨n,h⟩) h1⟩
 ·rintro⟨h1,rs,h2⟩;obtain⟨B,C,a,b,c,d⟩:=h2;obtain⟨n,b⟩:=Zbg b;exact⟨n+1,Gi ⟨rs,B,C,a,b,c,d⟩ h1⟩
theorem Ei{w:World}:∀(n:Nat)(A:Nat->Prop)(r:Rw.Term)(t:D.Term),(ownTn E n r t).ok w A->Rep.ok w A (Flat.enc r) t
 |0,_,_,_,h=>h.elim
 | n +1,A,r,t,h=>by
  obtain⟨e1,e2,e3,e4⟩:=(SC h:(HP.pure _).ok w A);have h2:RV w A r.Kids.v t.Kids:=by
   obtain⟨rs,h⟩:=Tu h;obtain⟨B,C,h1,h2,h3,h4⟩:=h;have hl:=Sz h2
   have hcss:∀k:Nat->Prop,Css w C (rs.map Flat.enc) t.Kids:=λ_=>⟨by simp[hl],λi cs x hcs hx=>by
    rw[ZeL]at hcs;cases hr:rs[i]? with
    |none=>simp_all
    |some q=>
     rw[hr]at hcs;obtain rfl:=Option.some.inj hcs
     exact Ei n C q x (Sy h2 hr hx)⟩
   have h1':RV w A r.Kids.v rs:=RV.sub (SL.rv h1) λk _ hk=>h4 k (.inl hk);have hc':Css w A (rs.map Flat.enc) t.Kids:=⟨(hcss A).1,λi cs x hi hx=>Rep.keep ((hcss A).2 i cs x hi hx) λk _ hk=>⟨rfl,h4 k (.inr hk)⟩⟩;exact KX h1' hc'
  have:=RV.mk_Term t h2;refine Zbe (ρ:=Rw.Term) (α:=D.Term) (q:=r) ?_;show RV w A (.agg #[.int .i64 r.Op,.int .i64 r.W,.int .i64 r.N,Str.val r.Name,r.Kids.v]) t;simp_all
def WA(E:TypeId):Owns (ownT E):=⟨rfl,rfl,λw A r x⟨n,h⟩=>Ei n A r x h⟩
def Bo{x:D.Term}{a:Option Addr}{cp:Nat}(h:(OD (ownT E) E (.slice a x.Kids.length cp) x.Kids).ok w A):(ownT E ⟨x.Op,x.W,x.N,x.Name,⟨a,x.Kids.length,cp⟩⟩ x).ok w A:=Ji.2 ⟨⟨rfl,rfl,rfl,rfl⟩,h⟩
def AA(E:TypeId)(w:World):(ownT E ⟨0,0,0,⟨[]⟩,⟨none,0,0⟩⟩ ⟨0,0,0,⟨[]⟩,[]⟩).ok w Non:=Ji.2 ⟨⟨rfl,rfl,rfl,rfl⟩,OD.nil _ _ _⟩
end
section
variable{P:Program}{B:Bs}{N:Nat}{σ:List (Nat×Value)}{Γ:List HP}{Φ:List RF}{a:Act}{w:World}{Q:Exit->Act->World->Prop}
  {R α:Type}[Flat R]{own:R->α->HP}{E:TypeId}{v:Value}{rs:List R}{xs:List α}
def Ava.go[Rep α](ho:Owns own)(i:Nat)(hi:Γ[i]? =some (OD own E v xs):=by rfl):Ava Γ Φ w (RO v xs):=λS F hs hf=>by
 obtain⟨A,h1,h2⟩:=hs.get i hi;exact RV.sub (OD.rv ho h1) λk _ hk=>.inr (h2 k hk)
def Cx.releno{b:Option Addr}{n cp:Nat}(i:Nat)(c:Cx B N σ Γ Φ a w)(hi:Γ[i]? =some (OD own E (.slice b n cp) xs):=by rfl):n=xs.length/\Cx B N σ (Γ.set i (OD own E (.slice b xs.length cp) xs)) Φ a w:=by
 obtain⟨_,S,F,_,hs,_⟩:=id c;obtain⟨A,h1,_⟩:=hs.get i hi;obtain⟨a',c',he⟩:=OD.len h1;have he:n=xs.length:=by simp_all
 subst he;exact⟨rfl,c.swap i (λ_ h=>h) hi⟩
def Cx.odc(i j:Nat)(c:Cx B N σ Γ Φ a w)(hi:Γ[i]? =some (SL E v rs):=by rfl)(hj:Γ[j]? =some (HP.all own rs xs):=by rfl)(hne:[i,j].Nodup:=by decide):Cx B N σ (rest [i,j] Γ++[OD own E v xs]) Φ a w:=c.gam λS h=>
 Zn (Γ2:=[_]) (Sep.shut rs (h.part [i,j] (Γ1:=[SL E v rs,HP.all own rs xs]) aN hne).join2)
def Cx.pack{H:HP}(L:List HP)(gs:List Nat)(c:Cx B N σ Γ Φ a w)(hi:∀A,Sep L w A->H.ok w A)(hL:gs.map (λi=>Γ[i]?)=L.map some:=by rfl)(hn:gs.Nodup:=by decide):Cx B N σ (rest gs Γ++[H]) Φ a w:=c.gam λS h=>by
 obtain⟨A,R,h1,h2,h3,h4,h5⟩:=Sep.split (L1:=L) (h.part gs hL hn);grind[Zn,Sep.mk_cons]
end
section
variable{P:Program}{B:Bs}{N:Nat}{σ:List (Nat×Value)}{Γ:List HP}{Φ:List RF}{a:Act}{w:World}{Q:Exit->Act->World->Prop}
  {R α:Type}[Flat R]{own:R->α->HP}{ops:Array Oper}{k d d2:Nat}{t t' ty ty':TypeId}{pos pos':String}{af af':Array Edge}{x y z:Operand}{E:TypeId}{v u:Value}{rs:List R}{xs r:List α}
def Emkd{n:Int}{zx:α}(E:TypeId)(zr:R)(hz0:∀w,(own zr zx).ok w Non)(c:Cx B N σ Γ Φ a w)(hr:mk? n zx=some r)
  (h:∀a' c' fr w',Cx B N ((d,.slice a' r.length c')::σ) (Γ++[SL E (.slice a' r.length c') (List.replicate r.length zr),HP.all own (List.replicate r.length zr) r]) Φ fr w'->wpFrom P ops Q (k+1) fr w')
  (ho:ops[k]? =some ⟨some d,.makeSlice t x y,ty,pos,af,none⟩:=by rfl)(hd:Nat.blt d N=true:=by rfl)(he:ElT P E R:=by refine elT ?_;kernel_rfl)(ht:P.underlying t=some (.slice E):=by kernel_rfl)
  (hz:(P.info? E).map (λi=>i.zero.map λz=>z.cells.toList)=some (some (Flat.enc zr)):=by kernel_rfl)(hx:opd σ x=some (.int .i64 n):=by kernel_rfl)(hy:opd σ y=some (.int .i64 n):=by kernel_rfl):wpFrom P ops Q k a w:=by
 obtain⟨h1,h2⟩:=mk?_raw (z':=zr) hr;refine Emk (r:=List.replicate r.length zr) E c h1 (λa' c' fr w' c=>?_) ho hd he ht hz hx hy;simp only[ZeT]at c;have c:=c.gam (Γ':=Γ++[SL E (.slice a' r.length c') (List.replicate r.length zr),HP.all own (List.replicate r.length zr) r]) λS hs=>by
  have h3:(HP.all own (List.replicate r.length zr) r).ok w' Non:=by
   grind[Al]
  have:=Zn (Γ:=Γ++[SL E (.slice a' r.length c') (List.replicate r.length zr)]) (Γ2:=[_]) (hs.emp _ h3);grind
 grind
def Esetd{n:Int}{q:R}{e:α}(i j m:Nat)(c:Cx B N σ Γ Φ a w)(hr:set? xs n e=some r)
  (h:∀p fr w',Cx B N ((d,p)::σ) (rest [j,m] (Γ.set i (SL E v (rs.set n.toNat q)))++[HP.all own (rs.set n.toNat q) r]) Φ fr w'->wpFrom P ops Q (k+2) fr w')(hi:Γ[i]? =some (SL E v rs):=by rfl)(hj:Γ[j]? =some (HP.all own rs xs):=by rfl)(hm:Γ[m]? =some (own q e):=by rfl)(hne:[i,j,m].Nodup:=by decide)
  (ho:ops[k]? =some ⟨some d,.indexAddr t x y,ty,pos,af,none⟩:=by rfl)(ho':ops[k+1]? =some ⟨none,.store t' (.tmp d) z,ty',pos',af',none⟩:=by rfl)(hte:t'=E:=by rfl)(hd:Nat.blt d N=true:=by rfl)(hz:z≠ .tmp d:=by simp)
  (he:Ty P E R:=by constructor<;>kernel_rfl)(ht:P.underlying t=some (.slice E):=by kernel_rfl)(hx:opd σ x=some v:=by kernel_rfl)(hy:numOf (opd σ y)=some n:=by kernel_rfl)(hq:opd σ z=some (Rep.val R (Flat.enc q)):=by kernel_rfl):wpFrom P ops Q k a w:=by
 have hl:rs.length=xs.length:=by
  obtain⟨_,S,F,_,hs,_⟩:=id c;exact hs.dlen j hj
 obtain⟨h1,h2,h3⟩:=set?_raw (l':=rs) q hr hl;refine Eset i c h1 (λp fr w' c=>h p fr w' (c.gam λS hs=>?_)) hi ho ho' hte hd hz he ht hx hy hq;simp only[Zgg,ZeR,ZfR,or_false,not_or,not_false_eq_true,Zgz,ZgK]at hne;have hp:=hs.part [j,m] (Γ1:=[HP.all own rs xs,own q e]) ag (by simp[hne.2]);grind[Zn,Sep.merge,Zcs,Qm]
end
def OH{R α:Type}[Flat R](own:R->α->HP)(E:TypeId)(v:Value)(n:Int)(r:R)(xs:List α):HP:=.ex λrs:List R=>.two (SL E v rs) (.two (.pure (get? rs n=some r/\rs.length=xs.length)) (.but own n.toNat rs xs))
def back2{X Y:HP}{Γ:List HP}{w:World}{S:Nat->Prop}(h:Sep (Γ++[X,Y]) w S):Sep (X::Y::Γ) w S:=Zn (Γ2:=Γ) (Γ:=[X,Y]) h
def Sep.sole{X:HP}{w:World}{S:Nat->Prop}(h:Sep [X] w S):X.ok w S:=by
 obtain⟨A,B,h1,_,_,h2,_⟩:=h.cons_ok;exact X.big h1 h2
def get?_of{β:Type}{rs:List β}{α:Type}{xs:List α}{n:Int}{x:α}(h:get? xs n=some x)(hl:rs.length=xs.length):∃r,get? rs n=some r:=by
 have hi:=(Zej.1 (get?_at h)).1;simp_all[get?,Zei,Zef]
section
variable{P:Program}{B:Bs}{N:Nat}{σ:List (Nat×Value)}{Γ L:List HP}{Φ:List RF}{a:Act}{w:World}{S:Nat->Prop}{Q:Exit->Act->World->Prop}
  {R α:Type}[Flat R]{own:R->α->HP}{E:TypeId}{v:Value}{n:Int}{r:R}{x y:α}{xs ys:List α}
def Sep.oh(h:Sep (OH own E v n r xs::L) w S):∃rs,get? rs n=some r/\rs.length=xs.length/\Sep (SL E v rs::HP.but own n.toNat rs xs::L) w S:=by
 obtain⟨rs,h⟩:=h.open;have h:=h.two;obtain⟨A1,B1,a1,b1,d1,e1,f1⟩:=h.cons_ok;have hp:=(Sep.two b1).fact;grind[Sep.mk_cons]
def Sep.ohc{rs:List R}(h:Sep (SL E v rs::HP.but own n.toNat rs xs::L) w S)(h1:get? rs n=some r)(h2:rs.length=xs.length):Sep (OH own E v n r xs::L) w S:=by
 have h3:Sep (SL E v rs::HP.two (.pure (get? rs n=some r/\rs.length=xs.length)) (.but own n.toNat rs xs)::L) w S:=h.under λ_ h=>(h.emp (.pure _) (And.intro h1 h2)).join2;exact Sep.shut rs h3.join2
def Sep.unf(h:Sep (OH own E v n r xs::own r y::L) w S)(hs:set? xs n y=some ys):Sep (OD own E v ys::L) w S:=by
 obtain⟨rs,h1,h2,h⟩:=h.oh;exact Sep.shut rs (h.under λ_ h=>h.swap.fill h2 (get?_at h1) hs).join2
def Sep.foc(h:Sep (OD own E v xs::L) w S)(hx:get? xs n=some x):∃r,Sep (OH own E v n r xs::own r x::L) w S:=by
 obtain⟨rs,h⟩:=h.open;have h:=h.two;have hl:=Sep.dlen 1 h rfl;obtain⟨r,hr⟩:=get?_of (rs:=rs) hx hl;exact⟨r,Sep.ohc (h.under λ_ h=>(h.focus (get?_at hr) hx).swap) hr hl⟩
def Cx.foc(i:Nat)(c:Cx B N σ Γ Φ a w)(hx:get? xs n=some x)(hi:Γ[i]? =some (OD own E v xs):=by rfl):∃r,Cx B N σ (rest [i] Γ++[OH own E v n r xs,own r x]) Φ a w:=by
 obtain⟨h,S,F,h1,h2,h3⟩:=c;obtain⟨r,hp⟩:=Sep.foc (L:=rest [i] Γ) (h2.part [i] (Γ1:=[OD own E v xs]) aH U) hx;exact⟨r,h,S,F,h1,Zn (Γ2:=[_,_]) hp,h3⟩
def Cx.unf(i j:Nat)(c:Cx B N σ Γ Φ a w)(hs:set? xs n y=some ys)(hi:Γ[i]? =some (OH own E v n r xs):=by rfl)(hj:Γ[j]? =some (own r y):=by rfl)(hne:[i,j].Nodup:=by decide):Cx B N σ (rest [i,j] Γ++[OD own E v ys]) Φ a w:=c.gam λS h=>
 Zn (Γ2:=[_]) (Sep.unf (h.part [i,j] (Γ1:=[OH own E v n r xs,own r y]) aN hne) hs)
def Cx.oh(i:Nat)(c:Cx B N σ Γ Φ a w)(hi:Γ[i]? =some (OH own E v n r xs):=by rfl):∃rs,get? rs n=some r/\rs.length=xs.length/\Cx B N σ (rest [i] Γ++[SL E v rs,HP.but own n.toNat rs xs]) Φ a w:=by
 obtain⟨h,S,F,h1,h2,h3⟩:=c;obtain⟨rs,e1,e2,hp⟩:=Sep.oh (L:=rest [i] Γ) (h2.part [i] (Γ1:=[OH own E v n r xs]) aH U);exact⟨rs,e1,e2,h,S,F,h1,Zn (Γ2:=[_,_]) hp,h3⟩
def Cx.ohc{rs:List R}(c:Cx B N σ (L++[SL E v rs,HP.but own n.toNat rs xs]) Φ a w)(h1:get? rs n=some r)(h2:rs.length=xs.length):Cx B N σ (L++[OH own E v n r xs]) Φ a w:=c.gam λS h=>
 Zn (Γ2:=[_]) (Sep.ohc (back2 h) h1 h2)
end
section
variable{P:Program}{B:Bs}{N:Nat}{σ:List (Nat×Value)}{Γ:List HP}{Φ:List RF}{a:Act}{w:World}{Q:Exit->Act->World->Prop}{E:TypeId}{v:Value}{n:Int}
def Cx.fo_Term{x:D.Term}{xs:List D.Term}(i:Nat)(c:Cx B N σ Γ Φ a w)(hx:get? xs n=some x)(hi:Γ[i]? =some (OD (ownT E) E v xs):=by rfl):
  ∃(b:Option Addr)(cp:Nat),Cx B N σ (rest [i] Γ++[OH (ownT E) E v n (Rw.Term.mk x.Op x.W x.N x.Name ⟨b,x.Kids.length,cp⟩) xs,OD (ownT E) E (.slice b x.Kids.length cp) x.Kids]) Φ a w:=by
 obtain⟨r,h,S,F,h1,h2,h3⟩:=c.foc i hx hi;obtain⟨A1,B1,a1,b1,d1,e1,f1⟩:=(back2 h2).cons_ok;obtain⟨A2,B2,a2,b2,d2,e2,f2⟩:=b1.cons_ok;obtain⟨⟨g1,g2,g3,g4⟩,g5⟩:=Ji.1 a2;obtain⟨b,cp,g6⟩:=OD.len g5;obtain⟨rO,rW,rN,rM,rK⟩:=r;obtain⟨ka,kn,kc⟩:=rK;obtain⟨rfl,rfl,rfl⟩:=Value.slice.inj g6;subst g1 g2 g3 g4;exact⟨ka,kc,h,S,F,h1,Zn (Γ2:=[_,_]) (Sep.mk_cons a1 (Sep.mk_cons g5 b2 d2 e2 f2) d1 e1 f1),h3⟩
def Cx.un_Term{y:D.Term}{xs ys:List D.Term}{b:Option Addr}{m cp:Nat}(i j:Nat)(c:Cx B N σ Γ Φ a w)(hs:set? xs n y=some ys)(hi:Γ[i]? =some (OH (ownT E) E v n (Rw.Term.mk y.Op y.W y.N y.Name ⟨b,m,cp⟩) xs):=by kernel_rfl)
  (hj:Γ[j]? =some (OD (ownT E) E (.slice b m cp) y.Kids):=by kernel_rfl)(hne:[i,j].Nodup:=by decide):Cx B N σ (rest [i,j] Γ++[OD (ownT E) E v ys]) Φ a w:=by
 obtain⟨_,S,F,_,hS,_⟩:=id c;obtain⟨A,hA,_⟩:=hS.get j hj;obtain⟨b',c',he⟩:=OD.len hA;obtain⟨_,rfl,_⟩:=Value.slice.inj he;exact c.gam λS h=>
  Zn (Γ2:=[_]) (Sep.unf (r:=Rw.Term.mk y.Op y.W y.N y.Name ⟨b,y.Kids.length,cp⟩) ((h.part [i,j] (Γ1:=[OH (ownT E) E v n (Rw.Term.mk y.Op y.W y.N y.Name ⟨b,y.Kids.length,cp⟩) xs,OD (ownT E) E (.slice b y.Kids.length cp) y.Kids]) aN hne).under λ_ h=>h.imp λ_ h=>Bo h) hs)
def Za0{q:D.Term}{w:World}{F:Nat->Prop}{cs:List Value}(h:Rep.ok w F cs q):∃u,cs[4]? =some u/\(RO u q.Kids).ok w F:=by
 obtain⟨v4,e,h4⟩:=RV.Term ⟨cs,h,rfl⟩;have e:=congrArg Array.toList (Value.agg.inj (show Value.agg cs.toArray=_ from e));subst e;exact⟨_,rfl,h4⟩
end
section
variable{P:Program}{B:Bs}{N:Nat}{σ:List (Nat×Value)}{Γ:List HP}{Φ:List RF}{a:Act}{w:World}{Q:Exit->Act->World->Prop}
  {R α:Type}[Flat R]{own:R->α->HP}{ops:Array Oper}{k d d2 d3:Nat}{t t' s' ty ty' ty2:TypeId}{pos pos' pos2:String}{af af' af2:Array Edge}{x y z:Operand}{E:TypeId}{v:Value}{xs:List α}{r:R}{fl off:Nat}{n:Int}
def Eohs(i:Nat)(u:Value)(r':R)(c:Cx B N σ Γ Φ a w)(h:∀p p2 fr w',Cx B N ((d2,p2)::(d,p)::σ) (rest [i] Γ++[OH own E v n r' xs]) Φ fr w'->wpFrom P ops Q (k+3) fr w')(hi:Γ[i]? =some (OH own E v n r xs):=by rfl)
  (hop:ops[k]? =some ⟨some d,.indexAddr t x y,ty,pos,af,none⟩:=by rfl)(hop2:ops[k+1]? =some ⟨some d2,.fieldAddr s' (.tmp d) fl,ty2,pos2,af2,none⟩:=by rfl)(hop':ops[k+2]? =some ⟨none,.store t' (.tmp d2) z,ty',pos',af',none⟩:=by rfl)
  (hd:Nat.blt d N=true:=by rfl)(hd2:Nat.blt d2 N=true:=by rfl)(hz:(match z with|.tmp s=>s !=d&&s !=d2|_=>true)=true:=by rfl)(hoff:fieldOff P s' fl=some off:=by rfl)(hlt:Nat.blt off (Rep.sz R)=true:=by rfl)(h1:u.oneCell'=true:=by rfl)
  (hu:Flat.enc r'=(Flat.enc r).set off u:=by rfl)(he:Ty P E R:=by constructor<;>kernel_rfl)(ht:P.underlying t=some (.slice E):=by kernel_rfl)(hT:(P.info? t').map (·.size)=some 1:=by kernel_rfl)
  (hx:opd σ x=some v:=by kernel_rfl)(hy:numOf (opd σ y)=some n:=by kernel_rfl)(hzu:opd σ z=some u:=by kernel_rfl):wpFrom P ops Q k a w:=by
 obtain⟨rs,e1,e2,c⟩:=c.oh i hi;have hn:=get?_nn e1;have hlt':=(Zej.1 (get?_at e1)).1;have hs:set? rs n r'=some (rs.set n.toNat r'):=by simp_all[set?,Zei]
 refine Esf (rest [i] Γ).length u c e1 hs (λp p2 fr w' c=>h p p2 fr w' ?_) U hop hop2 hop' hd hd2 hz hoff hlt h1 hu he ht hT hx hy hzu;have c:Cx B N ((d2,p2)::(d,p)::σ) (rest [i] Γ++[SL E v (rs.set n.toNat r'),HP.but own n.toNat rs xs]) Φ fr w':=by simpa using c
 have eb:HP.but own n.toNat rs xs=HP.but own n.toNat (rs.set n.toNat r') xs:=by
  grind[HP.but,List.take_set,List.drop_set,List.set_eq_of_length_le]
 rw[eb]at c;refine c.ohc ?_ ag;simp_all[get?,Zei,Zf7]
def Eohl(i:Nat)(u:Value)(c:Cx B N σ Γ Φ a w)(h:∀p p2 fr,Cx B N ((d3,u)::(d2,p2)::(d,p)::σ) (rest [i] Γ++[OH own E v n r xs]) Φ fr w->wpFrom P ops Q (k+3) fr w)(hi:Γ[i]? =some (OH own E v n r xs):=by rfl)
  (ho:ops[k]? =some ⟨some d,.indexAddr t x y,ty,pos,af,none⟩:=by rfl)(ho2:ops[k+1]? =some ⟨some d2,.fieldAddr s' (.tmp d) fl,ty2,pos2,af2,none⟩:=by rfl)(ho':ops[k+2]? =some ⟨some d3,.load t' (.tmp d2),ty',pos',af',none⟩:=by rfl)
  (hd:Nat.blt d N=true:=by rfl)(hd2:Nat.blt d2 N=true:=by rfl)(hd3:Nat.blt d3 N=true:=by rfl)(he:Ty P s' R:=by constructor<;>kernel_rfl)(ht:P.underlying t=some (.slice s'):=by kernel_rfl)(hT:Ty P t' Int:=by constructor<;>kernel_rfl)
  (hoff:fieldOff P s' fl=some off:=by rfl)(hu:(Flat.enc r)[off]? =some u:=by rfl)(hx:opd σ x=some v:=by kernel_rfl)(hy:numOf (opd σ y)=some n:=by kernel_rfl):wpFrom P ops Q k a w:=by
 obtain⟨rs,e1,e2,c⟩:=c.oh i hi;exact Eef c (Ava.g (E:=E) (l:=rs) (rest [i] Γ).length U) e1 (λ{w F cs}hok=>by simp_all[Flat.iff]) (λp p2 fr c=>h p p2 fr (c.ohc e1 e2)) ho ho2 ho' hd hd2 hd3 he ht hT hoff hx hy
theorem Eemf{α β:Type}[Rep α][Rep β]{l:List α}{q:α}{z:β}(c:Cx B N σ Γ Φ a w)(hl:Ava [] Φ w (RO v l))(hz:get? l n=some q)(hu:∀{w:World}{F:Nat->Prop}{cs:List Value},Rep.ok w F cs q->∃u,cs[off]? =some u/\(RO u z).ok w F)
  (h:∀p p2 u fr,Cx B N ((d3,u)::(d2,p2)::(d,p)::σ) Γ (Φ++[RO u z]) fr w->wpFrom P ops Q (k+3) fr w)
  (ho:ops[k]? =some ⟨some d,.indexAddr t x y,ty,pos,af,none⟩:=by rfl)(ho2:ops[k+1]? =some ⟨some d2,.fieldAddr s' (.tmp d) fl,ty2,pos2,af2,none⟩:=by rfl)(ho':ops[k+2]? =some ⟨some d3,.load t' (.tmp d2),ty',pos',af',none⟩:=by rfl)
  (hd:Nat.blt d N=true:=by rfl)(hd2:Nat.blt d2 N=true:=by rfl)(hd3:Nat.blt d3 N=true:=by rfl)(he:Ty P s' α:=by constructor<;>kernel_rfl)(ht:P.underlying t=some (.slice s'):=by kernel_rfl)(hT:Ty P t' Int:=by constructor<;>kernel_rfl)
  (hoff:fieldOff P s' fl=some off:=by kernel_rfl)(hx:opd σ x=some v:=by kernel_rfl)(hy:numOf (opd σ y)=some n:=by kernel_rfl):wpFrom P ops Q k a w:=by
 obtain⟨hF,S,F,hM,hs,hf⟩:=c;obtain⟨kd,hy⟩:=Yl hy;have hl':=hl Non F (Sep.nil w Non) hf;refine Zu hF ho rfl rfl (Ze4.mp hd) (QE rfl ht he (Zd hF hx) hl' (Zd hF hy) (get?_nn hz) (get?_at hz)) λp w1 fr1 hpw hF1=>?_;obtain⟨⟨ad,cs,rfl,hFb,hok,hc⟩,rfl⟩:=hpw;obtain⟨u,hcs,hru⟩:=hu hok;have hp1:=hF1.get d (.pointer (some ad)) U
 refine Zu hF1 ho2 rfl rfl (Ze4.mp hd2) (R:=λp w2=>p= .pointer (some (ad.add off))/\w1=w2) (Zh (Pz (P:=P) (ρ:=λy=>match y with|.tmp s=>if s=d then some (.pointer (some ad))else none|_=>none) (λy z hy=>by
  grind) aX w1) ⟨rfl,rfl⟩) λp2 w2 fr2 hp2 hF2=>?_
 obtain⟨rfl,rfl⟩:=hp2;have hc1:Cells w1 (ad.add off) [u]:=λj q' hq=>by
  cases j with
  |zero=>
   simp only[Zfs,Option.some.injEq]at hq;subst hq;exact hc off u hcs
  |succ j=>simp at hq
 refine Zu hF2 ho' rfl rfl (Ze4.mp hd3) (R:=λz w3=>z=u/\w1=w3) (Zh (v:=u) (w':=w1) ?_ ⟨rfl,rfl⟩) λz w3 fr3 hz3 hF3=>?_
 ·have hd1:=hF2.get d2 (.pointer (some (ad.add off))) U;have:=YO hT (cs:=[u]) rfl hc1;have hv:Rep.val Int [u]=u:=rfl;simp_all[execOp,Instr.loadAt,Instr.sureAddr]
 ·obtain⟨rfl,rfl⟩:=hz3;exact h _ _ _ fr3 ⟨hF3,S,F,hM,hs,hf.add (RF.sub _ hru λ_ _ h=>h.elim id λh=>h.elim)⟩
end
def SL.len{α:Type}[Rep α]{E:TypeId}{v:Value}{l:List α}{w:World}{A:Nat->Prop}(h:(SL E v l).ok w A):∃a c,v= .slice a l.length c:=by
 rcases h with⟨go,ho⟩|⟨rfl,a,rfl⟩
 ·exact ho.slice
 ·exact⟨a,0,rfl⟩
def waits(ops:Array Oper)(i:Nat):List Nat:=((ops[i]?).map λo=>(o.after.toList.filter λe=>Region.binds .any e).map (·.on)).getD []
theorem mem_ready{ops:Array Oper}{L:Array Bool}{i:Nat}:i∈Region.ready .any ops L↔i<ops.size/\L.getD i true=false/\∀e∈waits ops i,L.getD e false=true:=by
 unfold Region.ready;rw[Ze6,Ze7];refine and_congr_right λhi=>?_;have ho:ops[i]? =some ops[i]:=Zff hi;unfold waits;rw[ho];simp only[Ze0,ZeF,Zek,Zfp];rw[<-Array.all_toList,Zev];grind
theorem Jf{P:Program}{ops:Array Oper}{Q:Exit->Act->World->Prop}{i:Nat}{o:Oper}{K:Act->World->Prop}{a:Act}{w:World}(ho:ops[i]? =some o)(h:wpOp P ops Q i K a w):
  wpOp P ops Q i (λa' w'=>K a' w'/\∀t,o.dst≠some t->a'.eval (.tmp t)=a.eval (.tmp t)) a w:=by
 have hput:∀(b:Act)v t,o.dst≠some t->(b.tmps=a.tmps)->(b.put o.dst v).eval (.tmp t)=a.eval (.tmp t):=by
  cases hd:o.dst with
  |none=>simp_all[Act.put,Act.eval]
  |some d=>
   simp_all[Act.put,Act.eval,Zeh]
 unfold wpOp at*;simp only[ho]at h⊢;split
 ·unfold Oper.wp at*;generalize (execOp a.eval o).run P w=r at*;cases r with
  | ok n w'=>
   cases n<;>simp only[Oper.upon]at h⊢<;>
    first
     |simp_all
     |exact Calls.mono h (λe w'' he=>by cases e<;>first|exact⟨he,λt ht=>hput _ _ t ht rfl⟩|exact he)
     |exact Rows.mono h (λ_ _ he=>⟨he,λt ht=>hput _ _ t ht rfl⟩)
  |halt x w'=>simp_all[Oper.upon]
 simp_all
structure RelM(ops:Array Oper)(mE:Array Bool)(qi:List Nat)(m:Array Bool):Prop where
 size:m.size=ops.size
 same:∀k,k<ops.size->k∉qi->m.getD k false=mE.getD k false
 closed:∀k,k<ops.size->m.getD k false=true->∀e∈waits ops k,m.getD e false=true
theorem Cw{m:Array Bool}{k:Nat}(h:k<m.size):m.getD k true=m.getD k false:=by
 simp_all
def acyc(ops:Array Oper):Bool:=(List.range ops.size).all λi=>(waits ops i).all λe=>Nat.blt e i
theorem NI{ops:Array Oper}(h:acyc ops=true){i e:Nat}(hi:i<ops.size)(he:e∈waits ops i):e<i:=by
 simp_all[acyc,Zev,Ze7]
theorem ZbW{ops:Array Oper}{m:Array Bool}(hac:acyc ops=true)(hs:m.size=ops.size)(hr:Region.ready .any ops m=[]):∀k,k<ops.size->m.getD k false=true:=by
 intro k
 induction k using Nat.strongRecOn with
 | _ k ih=>
  intro hk;cases hm:m.getD k false with
  |true=>rfl
  | false=>
   have:k∈Region.ready .any ops m:=mem_ready.2 ⟨hk,by simp_all,λe he=>by
    grind[NI]⟩
   simp_all
def clo(ops:Array Oper):Nat->List Nat->List Nat
 |0,s=>s
 |n+1,s=>match(s.flatMap (waits ops)).filter (λe=>!memN s e)with
  |[]=>s
  |t=>clo ops n (s++t)
theorem Jw{ops:Array Oper}{m:Array Bool}(hac:acyc ops=true)(hc:∀k,k<ops.size->m.getD k false=true->∀e∈waits ops k,m.getD e false=true):∀(n:Nat)(s:List Nat),(∀k∈s,k<ops.size/\m.getD k false=true)->∀k∈clo ops n s,m.getD k false=true
 |0,s,h,k,hk=>(h k hk).2
 | n+1,s,h,k,hk=>by
  unfold clo at hk;split at hk
  ·simp_all
  ·refine Jw hac hc n _ (λx hx=> ?_) k hk;rcases Zew.1 hx with hx|hx
   ·exact h x hx
   ·obtain⟨y,hy,hx⟩:=List.mem_flatMap.1 (Ze6.1 hx).1;obtain⟨h1,h2⟩:=h y hy;have:=NI hac h1 hx;grind
abbrev Quiets:=List (Nat×Nat×Value)
def slots(qs:Quiets)(l:List Nat):List (Nat×Value):=(qs.filter λq=>memN l q.1).map (·.2)
section
variable(P:Program)(ops:Array Oper)(Q:Exit->Act->World->Prop)(B:Bs)(N:Nat)
def QN(σ:List (Nat×Value))(Γ:List HP)(Φ:List RF)(mE:Array Bool)(qs:Quiets):Prop:=
 ∀f a w m,Cx B N σ Γ Φ a w->RelM ops mE (qs.map (·.1)) m->(∀q∈qs,m.getD q.1 false=true->a.eval (.tmp q.2.1)=q.2.2)->m.toList.count false<=f->wpAny P .any ops Q f m a w
def nextB(mE:Array Bool)(qs:Quiets)(i:Nat)(mE':Array Bool)(qs':Quiets):Bool:=
 (mE'.size==ops.size)&&((List.range ops.size).all λk=>memN (qs'.map (·.1)) k||(Nat.beq k i||memN (clo ops ops.size (waits ops i)) k)&&mE'.getD k false|| !Nat.beq k i&& !memN (qs.map (·.1)) k&&(mE'.getD k false==mE.getD k false))&&(match ops[i]? with|some o=>qs'.all λq=>o.dst !=some q.2.1|none=>false)
def Nxt(mE:Array Bool)(qs:Quiets)(i:Nat)(a:Act)(w:World):Prop:=
 ∃σ' Γ' Φ' mE' qs',Cx B N σ' Γ' Φ' a w/\QN P ops Q B N σ' Γ' Φ' mE' qs'/\nextB ops mE qs i mE' qs'=true/\(qs'.filter λq=>memN (qs.map (·.1)) q.1)=(qs.filter λq=>memN (qs'.map (·.1)) q.1)/\(qs'.all λq=>memN (qs.map (·.1)) q.1||memN (clo ops ops.size (waits ops q.1)) i)=true
end
theorem Ug{l:List Nat}{k:Nat}:memN l k=true↔k∈l:=by
 induction l with
 |nil=>exact⟨(λh=>ax),(λh=>ax)⟩
 |cons x l ih=>
  rw[memN,ZeX,ih,ZeR];exact or_congr ⟨λh=>(ZfI h).symm,λh=>by simp_all⟩ Iff.rfl
theorem DL{β γ:Type}{f:β->γ}:∀{l:List β},(l.map f).Nodup->∀{x y:β},x∈l->y∈l->f x=f y->x=y
 | z::l,h,x,y,hx,hy,e=>by
  rw[ZeQ,Zgg]at h;obtain⟨h1,h2⟩:=h;rcases ZeR.1 hx with ex|hx1
  ·grind
  ·rcases ZeR.1 hy with ey|hy1
   ·simp_all
   ·exact DL h2 hx1 hy1 e
theorem cntL:∀{l:List Bool}{i:Nat},l[i]? =some false->(l.set i true).count false+1=l.count false
 |[],_,h=>by simp at h
 |x::l,0,h=>by
  simp_all
 |x::l,i+1,h=>by
  grind
theorem cntS{m:Array Bool}{i:Nat}(hi:i<m.size)(h:m.getD i false=false):(m.setIfInBounds i true).toList.count false+1=m.toList.count false:=by
 simp_all[ZfN,cntL,Zeh,Zff]
section
variable{P:Program}{ops:Array Oper}{Q:Exit->Act->World->Prop}{B:Bs}{N:Nat}{σ:List (Nat×Value)}{Γ:List HP}{Φ:List RF}{mE:Array Bool}{qs:Quiets}
theorem CR{σ:List (Nat×Value)}{a:Act}(h:FrS N σ a):∀(l:List (Nat×Value)),(∀p∈l,a.eval (.tmp p.1)=p.2)->FrS N (l++σ) a
 |[],_=>h
 |p::l,hl=>(CR h l λq hq=>hl q (ZeB _ hq)).cons (hl p ZeK)
def Cx.adds{a:Act}{w:World}(c:Cx B N σ Γ Φ a w)(l:List (Nat×Value))(h:∀p∈l,a.eval (.tmp p.1)=p.2):Cx B N (l++σ) Γ Φ a w:=⟨CR c.fr l h,c.me⟩
theorem qnode(rs:List Nat)(hac:acyc ops=true)(hms:mE.size=ops.size)
  (hqd:∀q∈qs,∃o,ops[q.1]? =some o/\o.dst=some q.2.1)(hnd:(qs.map (·.1)).Nodup)(hnd2:(qs.map (·.2.1)).Nodup)(hσ:∀q∈qs,σ.lookup q.2.1=none)
  (hqe:∀q∈qs,∀a w,Cx B N (slots qs (waits ops q.1)++σ) Γ Φ a w->wpOp P ops Q q.1 (λa' w'=>Cx B N ((q.2.1,q.2.2)::(slots qs (waits ops q.1)++σ)) Γ Φ a' w') a w)
  (hrs:∀i,i<ops.size->i∉qs.map (·.1)->mE.getD i false=false->(∀e∈waits ops i,e∈qs.map (·.1)\/mE.getD e false=true)->i∈rs)
  (hev:∀i∈rs,∀a w,Cx B N (slots qs (clo ops ops.size (waits ops i))++σ) Γ Φ a w->wpOp P ops Q i (Nxt P ops Q B N mE qs i) a w)
  (hend:(∃k,k<ops.size/\k∉qs.map (·.1)/\mE.getD k false=false)\/∀a w,Cx B N (qs.map (·.2)++σ) Γ Φ a w->Q .normal a w):QN P ops Q B N σ Γ Φ mE qs:=by
 have hfin:∀a w m,Cx B N σ Γ Φ a w->RelM ops mE (qs.map (·.1)) m->(∀q∈qs,m.getD q.1 false=true->a.eval (.tmp q.2.1)=q.2.2)->(∀k,k<ops.size->m.getD k false=true)->Q .normal a w:=by
  intro a w m c hr hq hall;rcases hend with⟨k,h1,h2,h3⟩|h
  ·have:=hr.same k h1 h2;simp_all
  ·refine h a w (c.adds _ λp hp=> ?_);grind
 intro f
 induction f with
 | zero=>
  intro a w m c hr hq hf;have hall:∀k,k<ops.size->m.getD k false=true:=λk hk=>by
   cases hm:m.getD k false with
   |true=>rfl
   |false=>
    have h1:k<m.size:=by rw[hr.size];exact hk
    grind[cntS]
  refine⟨List.eq_nil_iff_forall_not_mem.2 λi hi=>?_,hfin a w m c hr hq hall⟩;grind[mem_ready,Cw]
 | succ f ih=>
  intro a w m c hr hq hf;refine⟨λhn=>hfin a w m c hr hq (ZbW hac hr.size hn),λi hi=>?_⟩;obtain⟨h1,h2,h3⟩:=mem_ready.1 hi;have him:i<m.size:=by rw[hr.size];exact h1
  rw[Cw him]at h2;have hcnt:=cntS him h2;have hget:∀k,k≠i->(m.setIfInBounds i true).getD k false=m.getD k false:=λk hk=>by
   simp[Zeh,Array.getElem?_setIfInBounds_ne (Ne.symm hk)]
  have hgeti:(m.setIfInBounds i true).getD i false=true:=by
   simp[Zeh,him]
  have hclosed:∀k,k<ops.size->(m.setIfInBounds i true).getD k false=true->∀e∈waits ops k,(m.setIfInBounds i true).getD e false=true:=λk hk hkm e he=>by
   by_cases ei:e=i
   ·rw[ei];exact hgeti
   ·rw[hget e ei];by_cases ki:k=i
    ·rw[ki]at he;exact h3 e he
    ·rw[hget k ki]at hkm;exact hr.closed k hk hkm e he
  obtain⟨o,ho⟩:∃o,ops[i]? =some o:=⟨ops[i],Zff h1⟩;by_cases hiq:i∈qs.map (·.1)
  ·obtain⟨q,hqm,rfl⟩:=Zfz.1 hiq;have c1:Cx B N (slots qs (waits ops q.1)++σ) Γ Φ a w:=c.adds _ λp hp=>by
    unfold slots at hp;obtain⟨q',hq',rfl⟩:=Zfz.1 hp;obtain⟨g1,g2⟩:=Ze6.1 hq';exact hq q' g1 (h3 _ (Ug.1 g2))
   refine wpOp_mono (λa' w'⟨c2,hfr⟩=>?_) (Jf ho (hqe q hqm a w c1));obtain⟨o',ho',hd⟩:=hqd q hqm;rw[ho]at ho';cases ho';refine ih a' w' _ ⟨⟨c2.fr.defers,c2.fr.size,λt v hv=>?_⟩,c2.me⟩ ⟨by simp[hr.size],λk hk hkq=>?_,hclosed⟩ (λp hp hpm=>?_) O
   ·have ht:t≠q.2.1:=λe=>by rw[e,hσ q hqm]at hv;cases hv
    rw[hfr t (by rw[hd];intro e;exact ht (Option.some.inj e).symm)];exact c.fr.get t v hv
   ·rw[hget k (λe=>hkq (by rw[e];exact hiq))];exact hr.same k hk hkq
   ·by_cases e:p.1=q.1
    ·have:p=q:=DL hnd hp hqm e;subst this;exact c2.fr.get _ _ U
    ·rw[hget _ e]at hpm;have hne:p.2.1≠q.2.1:=λe2=>e (by rw[DL hnd2 hp hqm e2]);rw[hfr p.2.1 (by rw[hd];intro e3;exact hne (Option.some.inj e3).symm)];exact hq p hp hpm
  ·have hmE:mE.getD i false=false:=by rw[<-hr.same i h1 hiq];exact h2
   have hin:=hrs i h1 hiq hmE λe he=>by
    by_cases hq':e∈qs.map (·.1)
    ·exact .inl hq'
    ·have:=NI hac h1 he;exact .inr (by rw[<-hr.same e O hq'];exact h3 e he)
   have hclo:∀k∈clo ops ops.size (waits ops i),m.getD k false=true:=Jw hac hr.closed _ _ λk hk=>⟨by have:=NI hac h1 hk;omega,h3 k hk⟩;have c1:Cx B N (slots qs (clo ops ops.size (waits ops i))++σ) Γ Φ a w:=c.adds _ λp hp=>by
    unfold slots at hp;obtain⟨q',hq',rfl⟩:=Zfz.1 hp;obtain⟨g1,g2⟩:=Ze6.1 hq';exact hq q' g1 (hclo _ (Ug.1 g2))
   refine wpOp_mono (λa' w'⟨⟨σ',Γ',Φ',mE',qs',c2,hN,hb,hdl,hnw⟩,hfr⟩=>?_) (Jf ho (hev i hin a w c1));unfold nextB at hb;simp only[ho,Zek,Zft]at hb;obtain⟨⟨b1,b2⟩,b3⟩:=hb;have hsub:∀p∈qs',p∈qs\/memN (clo ops ops.size (waits ops p.1)) i=true:=λp hp=>by
    have h:=Zev.1 hnw p hp;rw[ZeX]at h;refine h.imp (λh=>?_) id;have:p∈qs'.filter λq=>memN (qs.map (·.1)) q.1:=Ze6.2 ⟨hp,h⟩;rw[hdl]at this;exact(Ze6.1 this).1
   refine hN f a' w' _ c2 ⟨by simp[hr.size],λk hk hkq=>?_,hclosed⟩ (λp hp hpm=>?_) O
   ·rw[Zev]at b2;have:=b2 k (Ze7.2 hk);have hkq':memN (qs'.map (·.1)) k=false:=by
     cases h:memN (qs'.map (·.1)) k with
     |false=>rfl
     |true=>exact absurd (Ug.1 h) hkq
    rw[hkq',ZeN,ZeX]at this;rcases this with this|this
    ·rw[Zek,ZeX]at this;rw[this.2];by_cases ki:k=i
     ·rw[ki];exact hgeti
     ·rw[hget k ki];rcases this.1 with h|h
      ·exact absurd (ZfI h) ki
      ·exact hclo k (Ug.1 h)
    ·rw[Zek,Zek,Zft]at this;have hkn:k∉qs.map (·.1):=λh=>by rw[Ug.2 h]at this;simp at this
     by_cases ki:k=i
     ·rw[ki]at this;simp at this
     ·rw[hget k ki,this.2];exact hr.same k hk hkn
   ·have hne:o.dst≠some p.2.1:=by
     rw[Zev]at b3;simpa using b3 p hp
    rw[hfr _ hne];by_cases ki:p.1=i
    ·rcases hsub p hp with h|h
     ·exact absurd (Zfz.2 ⟨p,h,ki⟩) hiq
     ·rw[ki]at h;rw[hclo i (Ug.1 h)]at h2;cases h2
    ·rw [hget _ ki]at hpm
     rcases hsub p hp with h|h
     ·exact hq p h hpm
     ·have hlt:p.1<ops.size:=by
       cases hlt:decide (p.1<ops.size)with
       |true=>exact of_decide_eq_true hlt
       |false=>
        have:¬p.1<m.size:=by rw[hr.size];exact of_decide_eq_false hlt
        rw[Zeh,Zfn O]at hpm;cases hpm
      have:=Jw hac hr.closed ops.size (waits ops p.1) (λk hk=>⟨by have:=NI hac hlt hk;omega,hr.closed p.1 hlt hpm k hk⟩) i (Ug.1 h);rw[this]at h2;cases h2
def nodeB(ops:Array Oper)(σ:List (Nat×Value))(mE:Array Bool)(qs:Quiets)(rs:List Nat):Bool:=
 acyc ops&&(mE.size==ops.size)&&(qs.all λq=>match ops[q.1]? with|some o=>o.dst==some q.2.1|none=>false)&&ndN (qs.map (·.1))&&ndN (qs.map (·.2.1))&&(qs.all λq=>!memN (σ.map (·.1)) q.2.1)&&
  (List.range ops.size).all λi=>memN (qs.map (·.1)) i||mE.getD i false|| !((waits ops i).all λe=>memN (qs.map (·.1)) e||mE.getD e false)||memN rs i
theorem qnode'(rs:List Nat)(hb:nodeB ops σ mE qs rs=true)
  (hqe:AllP (λq=>∀a w,Cx B N (slots qs (waits ops q.1)++σ) Γ Φ a w->wpOp P ops Q q.1 (λa' w'=>Cx B N ((q.2.1,q.2.2)::(slots qs (waits ops q.1)++σ)) Γ Φ a' w') a w) qs)
  (hev:AllP (λi=>∀a w,Cx B N (slots qs (clo ops ops.size (waits ops i))++σ) Γ Φ a w->wpOp P ops Q i (Nxt P ops Q B N mE qs i) a w) rs)
  (hend:(∃k,k<ops.size/\k∉qs.map (·.1)/\mE.getD k false=false)\/∀a w,Cx B N (qs.map (·.2)++σ) Γ Φ a w->Q .normal a w):QN P ops Q B N σ Γ Φ mE qs:=by
 unfold nodeB at hb;simp only[Zek,Zft]at hb;obtain⟨⟨⟨⟨⟨⟨b1,b2⟩,b3⟩,b4⟩,b5⟩,b6⟩,b7⟩:=hb;refine qnode rs b1 b2 (λq hq=>?_) (PX b4) (PX b5) (λq hq=>?_) (λq hq=>hqe.mem hq) (λi h1 h2 h3 h4=>?_) (λi hi=>hev.mem hi) hend
 ·grind
 ·cases h:σ.lookup q.2.1 with
  |none=>rfl
  |some v=>
   grind[Ug]
 grind[List.all_eq_true,memN,absurd,Ug,waits]
def qn(rs:List Nat)(hqe:AllP (λq=>∀a w,Cx B N (slots qs (waits ops q.1)++σ) Γ Φ a w->wpOp P ops Q q.1 (λa' w'=>Cx B N ((q.2.1,q.2.2)::(slots qs (waits ops q.1)++σ)) Γ Φ a' w') a w) qs)
  (hev:AllP (λi=>∀a w,Cx B N (slots qs (clo ops ops.size (waits ops i))++σ) Γ Φ a w->wpOp P ops Q i (Nxt P ops Q B N mE qs i) a w) rs)(hb:nodeB ops σ mE qs rs=true:=by kernel_rfl)
  (hk:((List.range ops.size).any λk=>!memN (qs.map (·.1)) k&& !mE.getD k false)=true:=by kernel_rfl):QN P ops Q B N σ Γ Φ mE qs:=qnode' rs hb hqe hev (.inl (by
 grind[Ug]))
def qnE(hqe:AllP (λq=>∀a w,Cx B N (slots qs (waits ops q.1)++σ) Γ Φ a w->wpOp P ops Q q.1 (λa' w'=>Cx B N ((q.2.1,q.2.2)::(slots qs (waits ops q.1)++σ)) Γ Φ a' w') a w) qs)
  (hend:∀a w,Cx B N (qs.map (·.2)++σ) Γ Φ a w->Q .normal a w)(hb:nodeB ops σ mE qs []=true:=by kernel_rfl):QN P ops Q B N σ Γ Φ mE qs:=qnode' [] hb hqe trivial (.inr hend)
def Dq{ι:Type}{L:Array Bool}{fuel0:Nat}{a0:Act}{w0:World}(J:ι->Lpt)(mE:Array Bool)(qs:ι->Quiets)(c:Cx B N σ Γ Φ a0 w0)(hx:∀i,QN P ops Q B N (J i).1 ((J i).2.1 Γ) (Φ++(J i).2.2) mE (qs i))(k:(∀i,QN P ops Q B N (J i).1 ((J i).2.1 Γ) (Φ++(J i).2.2) mE (qs i))->wpAny P .any ops Q fuel0 L a0 w0):wpAny P .any ops Q fuel0 L a0 w0:=k hx
def nQ{ι:Type}{J:ι->Lpt}{mE':Array Bool}{qs':ι->Quiets}{Γ0:List HP}{Φ0:List RF}{j:Nat}{a:Act}{w:World}(h:∀i,QN P ops Q B N (J i).1 ((J i).2.1 Γ0) (Φ0++(J i).2.2) mE' (qs' i))(i:ι)(c:CxL B N Γ0 Φ0 (J i) a w)(hb:nextB ops mE qs j mE' (qs' i)=true:=by kernel_rfl)
  (hq:((qs' i).filter λq=>memN (qs.map (·.1)) q.1)=(qs.filter λq=>memN ((qs' i).map (·.1)) q.1):=by kernel_rfl)(hw:((qs' i).all λq=>memN (qs.map (·.1)) q.1||memN (clo ops ops.size (waits ops q.1)) j)=true:=by kernel_rfl):Nxt P ops Q B N mE qs j a w:=⟨_,_,_,_,_,c,h i,hb,hq,hw⟩
def q0{a:Act}{w:World}(c:Cx B N σ Γ Φ a w)(h:QN P ops Q B N σ Γ Φ (Array.replicate ops.size false) qs):wpAny P .any ops Q ops.size (Array.replicate ops.size false) a w:=by
 have hf:∀k,(Array.replicate ops.size false).getD k false=false:=λk=>by
  rw[Zeh,Zfo];split<;>rfl
 refine h _ a w _ c ⟨by simp,λ_ _ _=>rfl,λk _ hk=>?_⟩ (λq _ hq=>?_) U
 all_goals grind
def qP{S:List (Nat×Value)}{i d:Nat}{v:Value}{o:Oper}(hs:List (Nat×Nat))(ho:ops[i]? =some o:=by rfl)(hg:o.guard=none:=by rfl)
  (hk:(seqB P N (bxsOf Γ Φ) hs 0 [o] S).map (λr=>r.2.map (·.1))=some (((seqB P N (bxsOf Γ Φ) hs 0 [o] S).map (λr=>r.2.map (·.2))).getD []):=by kernel_rfl)(hσ:((seqB P N (bxsOf Γ Φ) hs 0 [o] S).getD ([],[])).1=(d,v)::S:=by kernel_rfl)(a:Act)(w:World)(c:Cx B N S Γ Φ a w):wpOp P ops Q i (λa' w'=>Cx B N ((d,v)::S) Γ Φ a' w') a w:=
 Zp o ho hg (Fp (ops:=#[o]) (k:=0) hs 1 c (λfr c=>E0 ag rfl) hk)
def qV{S:List (Nat×Value)}{i d:Nat}{v:Value}{o:Oper}(ho:ops[i]? =some o)(hg:o.guard=none)(hd:o.dst=some d)(hdN:Nat.blt d N=true){a:Act}{w:World}(c:Cx B N S Γ Φ a w)(hv:Does P o a w λv' w'=>v'=v/\w'=w):wpOp P ops Q i (λa' w'=>Cx B N ((d,v)::S) Γ Φ a' w') a w:=
 Zp o ho hg (Mo (ops:=#[o]) (k:=0) (o:=o) rfl hg hv λv' w' hw=>by
  obtain⟨rfl,rfl⟩:=hw;rw[hd]
  exact c.to (c.fr.put (Ze4.mp hdN) _))
section
variable{S:List (Nat×Value)}{i d:Nat}{dst:Option Tmp}{t ty:TypeId}{pos:String}{af:Array Edge}{x y:Operand}{α:Type}[Rep α]{e:TypeId}{v u:Value}{n:Int}{p:Addr}
def qI(k:Nat)(hk:Φ[k]? =some (EA α v n p u):=by rfl)(ho:ops[i]? =some ⟨some d,.indexAddr t x y,ty,pos,af,none⟩:=by rfl)(hdN:Nat.blt d N=true:=by rfl)(ht:P.underlying t=some (.slice e):=by rfl)(he:Ty P e α:=by constructor<;>kernel_rfl)(hx:opd S x=some v:=by kernel_rfl)(hy:numOf (opd S y)=some n:=by kernel_rfl)
  (a:Act)(w:World)(c:Cx B N S Γ Φ a w):wpOp P ops Q i (λa' w'=>Cx B N ((d,.pointer (some p))::S) Γ Φ a' w') a w:=by
 obtain⟨F,⟨ad,len,cap,rfl,rfl,hn,hlt⟩,_⟩:=c.use (Ava.f k hk);obtain⟨kd,hy⟩:=Yl hy;have h1:=Zd c.fr hx;have h2:=Zd c.fr hy;refine qV ho rfl rfl hdN c (Zh (v:=.pointer (some (ad.add (n.toNat*Rep.sz α)))) (w':=w) ?_ ⟨rfl,rfl⟩);simp[execOp,Instr.indexAt,h1,h2,asIntOf,run_underlying ht,hn,hlt,he.sizeOf]
def qL(k:Nat)(hk:Φ[k]? =some (EA α v n p u):=by rfl)(ho:ops[i]? =some ⟨some d,.load t x,ty,pos,af,none⟩:=by rfl)(hdN:Nat.blt d N=true:=by rfl)(ht:Ty P t α:=by constructor<;>kernel_rfl)(hx:opd S x=some (.pointer (some p)):=by kernel_rfl)
  (a:Act)(w:World)(c:Cx B N S Γ Φ a w):wpOp P ops Q i (λa' w'=>Cx B N ((d,u)::S) Γ Φ a' w') a w:=by
 obtain⟨F,_,cs,rfl,hl,hc,_⟩:=c.use (Ava.f k hk);have h1:=Zd c.fr hx;refine qV ho rfl rfl hdN c (Zh (v:=Rep.val α cs) (w':=w) ?_ ⟨rfl,rfl⟩);simp[execOp,Instr.loadAt,h1,Instr.sureAddr,YO ht hl hc]
end
end
section
def EW(w:World)(α:Type)[Rep α](v:Value)(n:Int)(p:Addr)(u:Value):Prop:=∃F,(EA α v n p u).ok w F
variable{ρ α:Type}[Flat ρ][Rep α]
variable{P:Program}{B:Bs}{N:Nat}{σ:List (Nat×Value)}{Γ:List HP}{Φ:List RF}{a:Act}{w:World}{K:Act->World->Prop}{Q:Exit->Act->World->Prop}{ops:Array Oper}{pds:List Pd}{j:Nat}
def Cx.elo[RawOf ρ α]{E:TypeId}{v:Value}{rs:List ρ}{xs:List α}{n:Int}{x:α}(i k:Nat)(c:Cx B N σ Γ Φ a w)(hx:get? xs n=some x)(hi:Γ[i]? =some (SL E v rs):=by rfl)(hk:Φ[k]? =some (CS rs xs):=by rfl):∃p u,EW w α v n p u/\Cx B N σ Γ (Φ++[RO u x]) a w:=by
 obtain⟨hF,S,F,h1,h2,h3⟩:=c;have hc:=h3.get hk;obtain⟨q',g1,_⟩:=Cm hc (get?_at hx);have hz':get? rs n=some q':=by simp_all[get?,Zei,get?_nn]
 have hr:=(h2.rv i hi);obtain⟨b,cap,rfl,e1,e2,e3⟩:=RV.slice hr;have hn:=get?_nn hx;have hat:=get?_at hz';have hlt:n.toNat<rs.length:=(Zej.1 hat).1;obtain⟨ad,rfl,hFb,hel⟩:=e3 an;obtain⟨cs,hok,hcl⟩:=Tk hel hat;have hcl:Cells w (ad.add (n.toNat*Rep.sz ρ)) cs:=by simp_all
 have ecs:cs=Flat.enc q':=Flat.iff.1 hok;have hok':Rep.ok w F (Flat.enc q') x:=hc.2 _ _ x ag (get?_at hx);have hne:cs≠[]:=by
  have h4:=Rep.len hok;grind[Rep.pos]
 have hb:(ad.add (n.toNat*Rep.sz ρ)).block<w.heap.size:=hcl.lt hne;subst ecs;rw[RawOf.sz (ρ:=ρ) (α:=α)]at hcl hb;exact⟨ad.add (n.toNat*Rep.sz α),Rep.val α (Flat.enc q'),⟨λ_=>True,⟨ad,_,_,rfl,rfl,hn,by omega⟩,_,rfl,Rep.len hok',hcl,trivial,hb⟩,hF,S,F,h1,h2,h3.add (R:=RO _ x) ⟨_,hok',rfl⟩⟩
def NieW{draw:Bool}{ms:List Nat}{dst:Option Tmp}{t ty:TypeId}{pos:String}{af:Array Edge}{g:Option (Nat×Bool)}{x y:Operand}{α:Type}[Rep α]{e:TypeId}{v u:Value}{n:Int}{p:Addr}(c:Cx B N σ Γ Φ a w)(hk:EW w α v n p u)
  (ho:ops[j]? =some ⟨dst,.indexAddr t x y,ty,pos,af,g⟩:=by rfl)(ht:P.underlying t=some (.slice e):=by rfl)(he:Ty P e α:=by constructor<;>kernel_rfl)(hx:envP ops σ pds j x=some v:=by kernel_rfl)(hy:numOf (envP ops σ pds j y)=some n:=by kernel_rfl)(hG:Good ops pds [])(hpd:pds.getD j .any= .eq (.pointer (some p))):NPB P draw ms ops pds a w Q j:=by
 obtain⟨F,⟨ad,len,cap,rfl,rfl,hn,hlt⟩,_⟩:=hk;obtain⟨kd,hy⟩:=Yl hy;refine RU _ ho hG c.fr λa' w' _ hg hv _=>?_;have h1:=hv x _ ai hx;have h2:=hv y _ ai hy;refine Zh (v:=.pointer (some (ad.add (n.toNat*Rep.sz α)))) (w':=w') ?_ ak;simp[execOp,Instr.indexAt,h1,h2,asIntOf,run_underlying ht,hn,hlt,he.sizeOf]
def NleW{draw:Bool}{ms:List Nat}{dst:Option Tmp}{t ty:TypeId}{pos:String}{af:Array Edge}{g:Option (Nat×Bool)}{x:Operand}{α:Type}[Rep α]{v u:Value}{n:Int}{p:Addr}(c:Cx B N σ Γ Φ a w)(hk:EW w α v n p u)
  (ho:ops[j]? =some ⟨dst,.load t x,ty,pos,af,g⟩:=by rfl)(ht:Ty P t α:=by constructor<;>kernel_rfl)(hx:envP ops σ pds j x=some (.pointer (some p)):=by kernel_rfl)(hG:Good ops pds [])(hpd:pds.getD j .any= .eq u):NPB P draw ms ops pds a w Q j:=by
 obtain⟨F,_,cs,rfl,hl,hc,_⟩:=hk;refine RU _ ho hG c.fr λa' w' hC hg hv _=>?_;have h1:=hv x _ ai hx;refine Zh (v:=Rep.val α cs) (w':=w') ?_ ak;simp[execOp,Instr.loadAt,h1,Instr.sureAddr,YO ht hl (hc.ext hC)]
end
section
def EP(α:Type)[Rep α](v:Value)(n:Int)(p:Addr):Prop:=∃ad len cap,v= .slice (some ad) len cap/\p=ad.add (n.toNat*Rep.sz α)/\0<=n/\n<((len:Nat):Int)
variable{ρ α:Type}[Flat ρ][Rep α]
variable{P:Program}{B:Bs}{N:Nat}{σ:List (Nat×Value)}{Γ:List HP}{Φ:List RF}{a:Act}{w:World}{Q:Exit->Act->World->Prop}{ops:Array Oper}{pds:List Pd}{j k d i:Nat}{t t' ty:TypeId}{x y z:Operand}{pos:String}{af:Array Edge}{v:Value}{n:Int}{p:Addr}{E:TypeId}
def EP.one{p':Addr}(h:EP α v n p)(h':EP α v n p'):p=p':=by
 obtain⟨ad,len,cap,rfl,rfl,_⟩:=h;obtain⟨ad',len',cap',e,rfl,_⟩:=h';simp_all
def qIo{S:List (Nat×Value)}(h:EP α v n p)(ho:ops[i]? =some ⟨some d,.indexAddr t x y,ty,pos,af,none⟩:=by rfl)(hdN:Nat.blt d N=true:=by rfl)(ht:P.underlying t=some (.slice E):=by rfl)(he:Ty P E α:=by constructor<;>kernel_rfl)(hx:opd S x=some v:=by kernel_rfl)(hy:numOf (opd S y)=some n:=by kernel_rfl)
  (a:Act)(w:World)(c:Cx B N S Γ Φ a w):wpOp P ops Q i (λa' w'=>Cx B N ((d,.pointer (some p))::S) Γ Φ a' w') a w:=by
 obtain⟨ad,len,cap,rfl,rfl,hn,hlt⟩:=h;obtain⟨kd,hy⟩:=Yl hy;have h1:=Zd c.fr hx;have h2:=Zd c.fr hy;refine qV ho rfl rfl hdN c (Zh (v:=.pointer (some (ad.add (n.toNat*Rep.sz α)))) (w':=w) ?_ ⟨rfl,rfl⟩);simp[execOp,Instr.indexAt,h1,h2,asIntOf,run_underlying ht,hn,hlt,he.sizeOf]
end
section
variable{P:Program}{B:Bs}{N:Nat}{σ:List (Nat×Value)}{Γ:List HP}{Φ:List RF}{a:Act}{w:World}{Q:Exit->Act->World->Prop}
  {draw:Bool}{ms:List Nat}{ops:Array Oper}{pds:List Pd}{j:Nat}{dst:Option Tmp}{g:Option (Nat×Bool)}{t ty:TypeId}{y:Operand}{pos:String}{af:Array Edge}
end
instance{α:Type}[Rep α]:RawOf Hd (List α)where
 sz:=rfl
 agg:=rfl
 ex:=λ{w F cs x}h=>by
  have h1:RV w F (Rep.val (List α) cs) x:=⟨cs,h,rfl⟩;obtain⟨a,c,e,_⟩:=RV.slice h1;have hl:=Rep.len h
  match cs,hl with
  |[u],_=>exact⟨⟨a,x.length,c⟩,by rw[show u= .slice a x.length c from e];rfl⟩
def mapSV(P:Program)(k e:TypeId){ρ:Type}[Flat ρ](z0:ρ)(hk:P.underlying k=some .string)(hzero:∀w,(zeroValue e).run P w= .ok (Rep.val ρ (Flat.enc z0)) w):MapT P k e Str ρ where
 R v:=some (.held v,[])
 fit:=fitS
 lit x:=.string x.bytes
 dv y:=.held (Rep.val ρ (Flat.enc y))
 zero:=z0
 efit:=λ_=>true
 zfit:=rfl
 keyed:=Maps.string_keyed hk
 key x h:=by
  have h:x.bytes.length<=9223372036854775807:=of_decide_eq_true h;have h2:(Rep.val Str (Flat.enc x))= .string ⟨x.bytes.toArray⟩:=rfl;unfold keyOf;rw[hk,h2];simp only[mapKey,hk];have h3:(ByteArray.mk x.bytes.toArray).size<=maxLen:=by show x.bytes.toArray.size<=_;simp_all[maxLen]
  simp[h3]
 inj x y _ _ h:=by
  cases x;simp_all
 elem y _:=rfl
 back v y ps h:=by
  simp_all
 hz:=hzero
theorem Zdd{P:Program}{e:TypeId}(h:(P.info? e).map (·.zero)=some (some (.slice none 0 0)))(w:World):(zeroValue e).run P w= .ok (Rep.val Hd (Flat.enc (⟨none,0,0⟩:Hd))) w:=by
 show(zeroValue e).run P w= .ok (.slice none 0 0) w;cases hi:P.info? e with
 |none=>simp_all
 |some i=>
  simp_all[Ze0,Option.some.injEq,zeroValue,typeInfo]
section
variable{P:Program}{K V:TypeId}{κ ρ α:Type}[Flat κ][Flat ρ][Rep α][RawOf ρ α][DecidableEq κ]
def CM(w:World)(F:Nat->Prop)(rs:List (κ×ρ))(xs:List (κ×α)):Prop:=rs.map (·.1)=xs.map (·.1)/\Css w F ((rs.map (·.2)).map Flat.enc) (xs.map (·.2))
def MV(T:MapT P K V κ ρ)(v:Value)(m:Option (List (κ×α))):RF where
 ok w F:=∃m':Option (List (κ×ρ)),(OM T v m').ok w F/\CM w F (m'.getD []) (m.getD [])
 sub:=λ⟨m',h1,h2,h3⟩hs=>⟨m',(OM T v m').mono h1 hs,h2,h3.keep λk hk hf=>⟨rfl,hs k hk hf⟩⟩
 chg:=λ⟨m',h1,h2,h3⟩hc ht=>⟨m',(OM T v m').keep h1 hc ht,h2,h3.keep λk hk hf=>⟨hc.block k hk (ht k hf),hf⟩⟩
def MD(T:MapT P K V κ ρ)(own:ρ->α->HP)(b:Nat)(xs:List (κ×α)):HP:=.ex λrs:List (κ×ρ)=>.two (MP T b rs) (.two (.pure (rs.map (·.1)=xs.map (·.1))) (.all own (rs.map (·.2)) (xs.map (·.2))))
omit [RawOf ρ α]in
theorem Zdk{own:ρ->α->HP}(ho:Owns own){w:World}{A:Nat->Prop}{rs:List ρ}{xs:List α}(h:(HP.all own rs xs).ok w A):Css w A (rs.map Flat.enc) xs:=by
 have hl:=Sz h;refine⟨by simp[hl],λi cs x hcs hx=>?_⟩;rw[ZeL]at hcs;cases hr:rs[i]? with
 |none=>rw[hr]at hcs;cases hcs
 |some q=>
  rw[hr]at hcs;obtain rfl:=Option.some.inj hcs;exact ho.rv _ _ _ _ (Sy h hr hx)
omit [RawOf ρ α] [Flat κ]in
theorem ZbR{w:World}{F:Nat->Prop}{z:ρ}{zx:α}(hz:Rep.ok w F (Flat.enc z) zx){q:κ}:∀{rs:List (κ×ρ)}{xs:List (κ×α)},CM w F rs xs->Rep.ok w F (Flat.enc (mget z rs q)) (mget zx xs q)
 |[],[],_=>hz
 |[],_::_,h=>by have:=h.1;simp at this
 |_::_,[],h=>by have:=h.1;simp at this
 | (a,r)::rs,(b,x)::xs,h=>by
  have h1:a=b/\rs.map (·.1)=xs.map (·.1):=by have:=h.1;simpa using this
  obtain⟨rfl,h2⟩:=h1;have hh:Rep.ok w F (Flat.enc r) x:=h.2.2 0 _ _ rfl rfl;have ht:CM w F rs xs:=⟨h2,by have:=h.2.1;simpa using this,λi cs y hc hy=>h.2.2 (i+1) cs y (by simpa using hc) (by simpa using hy)⟩;unfold mget;by_cases c:q=a
  ·subst c;simpa[List.lookup]using hh
  ·have c':(q==a)=false:=by simpa using c
   simp only[List.lookup,c'];exact ZbR hz ht
variable{B:Bs}{N:Nat}{σ:List (Nat×Value)}{Γ:List HP}{Φ:List RF}{a:Act}{w:World}{Q:Exit->Act->World->Prop}{T:MapT P K V κ ρ}{own:ρ->α->HP}
  {ops:Array Oper}{k d b:Nat}{t ty:TypeId}{pos:String}{af:Array Edge}{x y z:Operand}{v:Value}
omit[RawOf ρ α]in
def MD.mv(ho:Owns own){A:Nat->Prop}{xs:List (κ×α)}(h:(MD T own b xs).ok w A):(MV T (.map (some b)) (some xs)).ok w A:=by
 obtain⟨rs,h⟩:=h;have h1:=SC h;have h2:=Tu h;exact⟨some rs,⟨b,rfl,h1.1,h1.2⟩,SC h2,Zdk ho (Tu h2)⟩
omit [RawOf ρ α]in
def Ava.md(ho:Owns own){xs:List (κ×α)}(i:Nat)(hi:Γ[i]? =some (MD T own b xs):=by rfl):Ava Γ Φ w (MV T (.map (some b)) (some xs)):=λS F hs hf=>by
 obtain⟨A,h1,h2⟩:=hs.get i hi;exact(MV T (.map (some b)) (some xs)).sub (MD.mv ho h1) λk _ hk=>.inr (h2 k hk)
omit [RawOf ρ α] [Rep α]in
def Emmd(T:MapT P K V κ ρ)(own:ρ->α->HP)(c:Cx B N σ Γ Φ a w)(h:∀b fr w',Cx B N ((d,.map (some b))::σ) (Γ++[MD T own b []]) Φ fr w'->wpFrom P ops Q (k+1) fr w')(ho:ops[k]? =some ⟨some d,.makeMap t none,ty,pos,af,none⟩:=by rfl)(hd:Nat.blt d N=true:=by rfl)
  (hm:∀w,(Instr.makeMap t none).run P w= .ok (.map (some w.heap.size)) (w.alloc (.map #[] 0)):=by exact λw=>by simp[Instr.makeMap,run_newObj_alloc]):wpFrom P ops Q k a w:=by
 obtain⟨hF,S,F,hM,hs,hf⟩:=c;refine IA T hs hM hm ho hd hF λb w' S' fr hs' hp hF'=>h b fr w' ⟨hF',S',F,hM.stp hp,Zn (Γ2:=[_]) (Sep.imp hs' λA hA=>?_),hf.chg hp.chg λk hk hS=>hM.dj k hS hk⟩;exact⟨[],PT hA (PT (rfl:(HP.pure _).ok w' Non) trivial)⟩
omit [Rep α] [RawOf ρ α]in
def Emd{q:κ}{r:ρ}{e:α}{m m':List (κ×α)}{fit:κ->Bool}(i j:Nat)(c:Cx B N σ Γ Φ a w)(hr:mput? fit m q e=some m')(h:∀w',Cx B N σ (rest [i,j] Γ++[MD T own b m']) Φ a w'->wpFrom P ops Q (k+1) a w')(hi:Γ[i]? =some (MD T own b m):=by rfl)(hj:Γ[j]? =some (own r e):=by rfl)(hne:[i,j].Nodup:=by decide)(hfit:T.fit=fit:=by rfl)(hzz:∀y,T.efit y=true:=by exact λ_=>rfl)
  (ho:ops[k]? =some ⟨none,.mapUpdate t x y z,ty,pos,af,none⟩:=by rfl)(ht:P.underlying t=some (.map K V):=by kernel_rfl)(hx:opd σ x=some (.map (some b)):=by kernel_rfl)(hy:opd σ y=some (Rep.val κ (Flat.enc q)):=by kernel_rfl)(hz:opd σ z=some (Rep.val ρ (Flat.enc r)):=by kernel_rfl):wpFrom P ops Q k a w:=by
 obtain⟨hF,S,F,hM,hs,hf⟩:=c;subst hfit;have hp:=hs.part [i,j] (Γ1:=[MD T own b m,own r e]) aN hne;obtain⟨rs,hp⟩:=Sep.open (L:=own r e::rest [i,j] Γ) hp;have hl:rs.length=m.length:=by
  have:=hp.two.get 1 rfl;obtain⟨A,hA,_⟩:=this;have:=Sz (Tu hA);simpa using this
 refine KC T 0 hp.two hM rfl ht ho hF (u:=q) (mput?_fit hr) r (hzz r) (by rw[hl];exact mput?_len hr) hx hy rfl hz rfl λw' S' hs' hpp hF'=>h w' ⟨hF',S',F,hM.stp hpp,Zn (Γ2:=[_]) ?_,hf.chg hpp.chg λk hk hS=>hM.dj k hS hk⟩;have hs':Sep (MP T b ((q,r)::rs)::(HP.two (.pure (rs.map (·.1)=m.map (·.1))) (.all own (rs.map (·.2)) (m.map (·.2))))::own r e::rest [i,j] Γ) w' S':=hs';obtain⟨A,B',h1,h2,h3,h4,h5⟩:=hs'.cons_ok;obtain⟨he,h2⟩:=(h2.two).fact;have h6:=Sep.merge (R:=HP.all own (r::rs.map (·.2)) (e::m.map (·.2))) h2 λA hA=>Qm hA;have h7:=Sep.mk_cons (S:=S') h1 h6 h3 h4 h5;refine Sep.merge h7 λA hA=>?_;rw[mput?_val hr];obtain⟨B1,C1,g1,g2,g3,g4⟩:=hA;exact⟨(q,r)::rs,B1,C1,g1,Gi g2 (show(HP.pure _).ok w' Non by show List.map _ _=List.map _ _;simp[he]),g3,g4⟩
omit [Flat κ] [Flat ρ] [RawOf ρ α] [DecidableEq κ]in
def ZdF{w:World}{F:Nat->Prop}:Rep.ok w F [.slice none 0 0] ([]:List α):=RV.one rfl (RV.mk_slice (l:=([]:List α)) (Zes _) (Zfi _) λh=>absurd rfl h)
omit [Flat κ] [DecidableEq κ]in
def Zd6{w:World}{F:Nat->Prop}{r:ρ}{x:α}(h:Rep.ok w F (Flat.enc r) x):RV w F (Rep.val ρ (Flat.enc r)) x:=⟨_,h,by unfold Rep.val;rw[RawOf.agg (ρ:=ρ) (α:=α)]⟩
theorem Erv{q:κ}{r:α}{m:Option (List (κ×α))}{fit:κ->Bool}{zz:α}(c:Cx B N σ Γ Φ a w)(hl:Ava [] Φ w (MV T v m))(hr:mgeto? fit zz m q=some r)(h:∀u fr,Cx B N ((d,u)::σ) Γ (Φ++[RO u r]) fr w->wpFrom P ops Q (k+1) fr w)(hfit:T.fit=fit:=by rfl)(hzz:∀w F,Rep.ok w F (Flat.enc T.zero) zz:=by intro w F;exact ZdF)
  (ho:ops[k]? =some ⟨some d,.lookup t x y false,ty,pos,af,none⟩:=by rfl)(hd:Nat.blt d N=true:=by rfl)(ht:P.underlying t=some (.map K V):=by kernel_rfl)(hx:opd σ x=some v:=by kernel_rfl)(hy:opd σ y=some (Rep.val κ (Flat.enc q)):=by kernel_rfl):wpFrom P ops Q k a w:=by
 subst hfit;obtain⟨hF,S,F,hM,hs,hf⟩:=c;obtain⟨m',h1,h2⟩:=Ava.ro hl hf;have hrv:Rep.ok w F (Flat.enc (mget T.zero (m'.getD []) q)) r:=by rw[<-mget?_val hr];simp_all[ZbR]
 have go:∀fr,FrS N ((d,Rep.val ρ (Flat.enc (mget T.zero (m'.getD []) q)))::σ) fr->wpFrom P ops Q (k+1) fr w:=λfr hF'=>h _ fr ⟨hF',S,F,hM,hs,hf.add (Zd6 hrv)⟩;cases m' with
 |some l=>
  obtain⟨b,rfl,g1,g2⟩:=h1;exact GA T 0 (Sep.of_ok (A:=F) (P:=MP T b l) ⟨g1,g2⟩) rfl ht ho hd hF (u:=q) (mget?_fit hr) hx hy rfl rfl go
 | none=>
  obtain rfl:v= .map none:=h1;refine Zu hF ho rfl rfl (Ze4.mp hd) (R:=λz w1=>z=Rep.val ρ (Flat.enc T.zero)/\w1=w) (Zh ?_ ⟨rfl,rfl⟩) λz w1 fr hz hF'=>?_
  ·have hkey:=T.key q (mget?_fit hr);have hck:=T.keyed.check w true hkey;have hfd:(Instr.findKey K (Rep.val κ (Flat.enc q)) []).run P w= .ok none w:=by
    rcases T.keyed.find w hkey [] (λe he=>by cases he)with h|⟨j,e,_,h,_⟩
    all_goals grind
   simp[execOp,Instr.lookup,Zd hF hx,Zd hF hy,run_underlying ht,hck,hfd,Result.andThen,T.hz]
  ·obtain⟨rfl,rfl⟩:=hz;exact go fr hF'
end
section
variable{P:Program}{B:Bs}{N:Nat}{σ:List (Nat×Value)}{Γ:List HP}{Φ:List RF}{a:Act}{w:World}{Q:Exit->Act->World->Prop}
  {ops:Array Oper}{k d:Nat}{t t' ty:TypeId}{pos:String}{af:Array Edge}{x y:Operand}{α:Type}[Flat α]{E:TypeId}{l r m:List α}{b a':Option Addr}{n0 cp c':Nat}{lo n:Int}{u:Value}
omit[Flat α]in
def FD(h:cut? l lo n=some r):r=vcut l lo r.length/\lo.toNat+r.length<=l.length:=by
 unfold cut? at h;split at h
 ·rename_i hb;obtain rfl:=Option.some.inj h;unfold vcut;refine⟨?_,by rw[Zex,Ze1];omega⟩;rw[Zex,Ze1,<-Zgy,Nat.min_eq_left O]
 ·cases h
theorem Evw{lw hw:Option Operand}(i:Nat)(c:Cx B N σ Γ Φ a w)(hr:cut? l lo n=some r)(h:∀a' c' fr,VW (Rep.sz α) b cp lo a' c'->Cx B N ((d,.slice a' r.length c')::σ) Γ Φ fr w->wpFrom P ops Q (k+1) fr w)(hi:Γ[i]? =some (SL E (.slice b n0 cp) l):=by rfl)
  (ho:ops[k]? =some ⟨some d,.slice t x lw hw none,ty,pos,af,none⟩:=by rfl)(hd:Nat.blt d N=true:=by rfl)(he:Ty P E α:=by constructor<;>kernel_rfl)(ht:P.underlying t=some (.slice E):=by kernel_rfl)(hx:opd σ x=some (.slice b n0 cp):=by kernel_rfl)
  (hlo:(match lw with|none=>some 0|some y=>numOf (opd σ y))=some lo:=by kernel_rfl)(hhi:(match hw with|none=>some (len l)|some y=>numOf (opd σ y))=some n:=by kernel_rfl):wpFrom P ops Q k a w:=by
 obtain⟨hF,S,F,hM,hs,hf⟩:=c;obtain⟨A,hA,_⟩:=hs.get i hi;refine Zbd he ht ho hd hF hx (SL.rv hA) (m:=lo) (n:=n) ?_ ?_ hr λa' c' fr hv _ hF'=>h a' c' fr hv ⟨hF',S,F,hM,hs,hf⟩
 ·grind[Option.some.inj,Yl]
 ·cases hw with
  |none=>exact(Option.some.inj hhi).symm
  |some y=>simp_all[Yl]
def Ava.vw(i:Nat)(hv:VW (Rep.sz α) b cp lo a' c')(hr:cut? l lo n=some r)(hi:Γ[i]? =some (SL E (.slice b n0 cp) l):=by rfl):Ava Γ Φ w (RO (.slice a' r.length c') r):=λS F hs hf=>by
 obtain⟨A,h1,h2⟩:=hs.get i hi;obtain⟨e1,e2⟩:=FD hr;have:=CW (RV.sub (SL.rv h1) λk _ hk=>(.inr (h2 k hk):F k\/S k)) hv e2;rw[<-e1]at this;exact this
def Ecpv(i:Nat)(c:Cx B N σ Γ Φ a w)(hv:VW (Rep.sz α) b cp lo a' c')(hr:cut? l lo n=some r)(hu:Ava Γ Φ w (RO u m))(h:∀q fr w',Cx B N ((d,q)::σ) (Γ.set i (SL E (.slice b n0 cp) (vcopy l lo r.length m))) Φ fr w'->wpFrom P ops Q (k+1) fr w')(hi:Γ[i]? =some (SL E (.slice b n0 cp) l):=by rfl)
  (ho:ops[k]? =some ⟨some d,.call ⟨.builtin .copy,#[x,y],#[t,t']⟩,ty,pos,af,none⟩:=by rfl)(hd:Nat.blt d N=true:=by rfl)(he:Ty P E α:=by constructor<;>kernel_rfl)(ht:P.underlying t=some (.slice E):=by kernel_rfl)(hx:opd σ x=some (.slice a' r.length c'):=by kernel_rfl)(hy:opd σ y=some u:=by kernel_rfl):wpFrom P ops Q k a w:=by
 obtain⟨F',hu⟩:=c.use hu;obtain⟨hF,S,F,hM,hs,hf⟩:=c;exact ZcJ i hs hM hi ht he ho hd hF hx hy hu hv (FD hr).2 λw' S' fr q hs' hp hF'=>h q fr w' ⟨hF',S',F,hM.stp hp,hs',hf.chg hp.chg λk hk hS=>hM.dj k hS hk⟩
end
section
variable{E:TypeId}{w:World}{A:Nat->Prop}{b a':Option Addr}{n c c' k:Nat}{l r:List Int}{m hi:Int}
def EJ{v:Value}(h:(TL E v l).ok w A):∃a c,v= .slice a l.length c:=by
 rcases h with⟨g,c,lo,a',c',base,h1,h2,h3,h4,rfl⟩|⟨rfl,a,rfl⟩
 all_goals simp
def Zch(h:(TL E (.slice b n c) l).ok w A)(hk:k<=l.length):(TL E (.slice b k c) (l.take k)).ok w A:=by
 rcases h with⟨g,c0,lo,a0,c1,base,h1,h2,h3,h4,h5⟩|⟨rfl,a,h5⟩
 ·obtain⟨rfl,rfl,rfl⟩:=h5;have hb:lo.toNat+k<=base.length:=by omega
  have e:(base.take (lo.toNat+k)).length=lo.toNat+k:=by simp_all
  have e2:(l.take k).length=k:=by simp_all
  refine .inl ⟨g,c0,lo,b,c,base.take (lo.toNat+k),by rw[e];exact h1.front hb,h2,by rw[e,e2],?_,by rw[e2]⟩;simp_all[Zgy]
 ·obtain⟨rfl,rfl,rfl⟩:=h5;obtain rfl:k=0:=by simp_all
  exact .inr ⟨rfl,b,rfl⟩
def ZcT(h:(TL E (.slice b n c) l).ok w A)(hv:VW 1 b c m a' c')(hr:cut? l m hi=some r):(TL E (.slice a' r.length c') r).ok w A:=by
 unfold cut? at hr;split at hr
 ·obtain rfl:=Option.some.inj hr;have h1:=Zch (k:=hi.toNat) h O;exact Zd5 h1 hv an rfl
 ·cases hr
end
abbrev ownL(E:TypeId):Hd->List Int->HP:=λh xs=>TL E h.v xs
def DZ(E:TypeId):Owns (ownL E):=⟨rfl,rfl,λw A r x h=>RV.one rfl (Io h)⟩
def IE(E:TypeId)(w:World):(ownL E ⟨none,0,0⟩ []).ok w Non:=.inr ⟨rfl,none,rfl⟩
section
variable{P:Program}{B:Bs}{N:Nat}{σ:List (Nat×Value)}{Γ:List HP}{Φ:List RF}{a:Act}{w:World}{Q:Exit->Act->World->Prop}
  {ops:Array Oper}{k d d2:Nat}{t t' ty ty':TypeId}{pos pos':String}{af af':Array Edge}{x y:Operand}{E E':TypeId}{l r m:List Int}{v u:Value}{rs:List Hd}{xs:List (List Int)}
def Cx.toT(i:Nat)(c:Cx B N σ Γ Φ a w)(hi:Γ[i]? =some (SL E v l):=by rfl):Cx B N σ (Γ.set i (TL E v l)) Φ a w:=c.swap i (λ_ h=>CE h) hi
def Ava.gt(i:Nat)(hi:Γ[i]? =some (TL E v l):=by rfl):Ava Γ Φ w (RO v l):=λS F hs hf=>by
 obtain⟨A,h1,h2⟩:=hs.get i hi;exact RV.sub (Io h1) λk _ hk=>.inr (h2 k hk)
def Cx.relent{b:Option Addr}{n cp:Nat}(i:Nat)(c:Cx B N σ Γ Φ a w)(hi:Γ[i]? =some (TL E (.slice b n cp) l):=by rfl):n=l.length/\Cx B N σ (Γ.set i (TL E (.slice b l.length cp) l)) Φ a w:=by
 obtain⟨_,S,F,_,hs,_⟩:=id c;obtain⟨A,h1,_⟩:=hs.get i hi;obtain⟨a',c',he⟩:=EJ h1;have he:n=l.length:=by simp_all
 subst he;exact⟨rfl,c.swap i (λ_ h=>h) hi⟩
def Eapt(i:Nat)(c:Cx B N σ Γ Φ a w)(hu:Ava Γ Φ w (RO u m))(hr:app? l m=some r)(h:∀a' c' fr w',Cx B N ((d,.slice a' (List.length r) c')::σ) (Γ.set i (TL E (.slice a' (List.length r) c') r)) Φ fr w'->wpFrom P ops Q (k+1) fr w')(hi:Γ[i]? =some (TL E v l):=by rfl)
  (ho:ops[k]? =some ⟨some d,.call ⟨.builtin .append,#[x,y],#[t,t']⟩,ty,pos,af,none⟩:=by rfl)(htt:t'=t:=by rfl)(hd:Nat.blt d N=true:=by rfl)(he:ElT P E Int:=by refine elT ?_;kernel_rfl)(ht:P.underlying t=some (.slice E):=by kernel_rfl)
  (hx:opd σ x=some v:=by kernel_rfl)(hy:opd σ y=some u:=by kernel_rfl):wpFrom P ops Q k a w:=by
 obtain⟨F',hu⟩:=c.use hu;obtain⟨hF,S,F,hM,hs,hf⟩:=c;exact Bz i hs hM hi ht he ho htt hd hF hx hy hu hr λa' c' w' S' fr hs' hp hF'=>h a' c' fr w' ⟨hF',S',F,hM.stp hp,hs',hf.chg hp.chg λk hk hS=>hM.dj k hS hk⟩
theorem Ecutt{lw hw:Option Operand}{b:Option Addr}{n0 cp:Nat}{lo n:Int}(i:Nat)(c:Cx B N σ Γ Φ a w)(hr:cut? l lo n=some r)(h:∀a' c' fr,Cx B N ((d,.slice a' r.length c')::σ) (Γ.set i (TL E (.slice a' r.length c') r)) Φ fr w->wpFrom P ops Q (k+1) fr w)(hi:Γ[i]? =some (TL E (.slice b n0 cp) l):=by rfl)
  (ho:ops[k]? =some ⟨some d,.slice t x lw hw none,ty,pos,af,none⟩:=by rfl)(hd:Nat.blt d N=true:=by rfl)(he:Ty P E Int:=by constructor<;>kernel_rfl)(ht:P.underlying t=some (.slice E):=by kernel_rfl)(hx:opd σ x=some (.slice b n0 cp):=by kernel_rfl)
  (hlo:(match lw with|none=>some 0|some y=>numOf (opd σ y))=some lo:=by kernel_rfl)(hhi:(match hw with|none=>some (len l)|some y=>numOf (opd σ y))=some n:=by kernel_rfl):wpFrom P ops Q k a w:=by
 obtain⟨hF,S,F,hM,hs,hf⟩:=c;obtain⟨A,hA,_⟩:=hs.get i hi;refine Zbd he ht ho hd hF hx (Io hA) (m:=lo) (n:=n) ?_ ?_ hr λa' c' fr hv _ hF'=>h a' c' fr ⟨hF',S,F,hM,hs.swapT i hi λA hA=>ZcT hA hv hr,hf⟩
 ·grind[Option.some.inj,Yl]
 ·cases hw with
  |none=>exact(Option.some.inj hhi).symm
  |some y=>simp_all[Yl]
def Eall{q:List Int}{n:Int}(i j:Nat)(c:Cx B N σ Γ Φ a w)(hz:get? xs n=some q)(h:∀p a' c' fr,rs[n.toNat]? =some ⟨a',q.length,c'⟩->Cx B N ((d2,.slice a' q.length c')::(d,p)::σ) Γ Φ fr w->wpFrom P ops Q (k+2) fr w)(hi:Γ[i]? =some (SL E v rs):=by rfl)(hj:Γ[j]? =some (HP.all (ownL E') rs xs):=by rfl)
  (ho:ops[k]? =some ⟨some d,.indexAddr t x y,ty,pos,af,none⟩:=by rfl)(ho':ops[k+1]? =some ⟨some d2,.load t' (.tmp d),ty',pos',af',none⟩:=by rfl)(hd:Nat.blt d N=true:=by rfl)(hd':Nat.blt d2 N=true:=by rfl)
  (he:Ty P t' Hd:=by constructor<;>kernel_rfl)(ht:P.underlying t=some (.slice t'):=by kernel_rfl)(hx:opd σ x=some v:=by kernel_rfl)(hy:numOf (opd σ y)=some n:=by kernel_rfl):wpFrom P ops Q k a w:=by
 obtain⟨_,S,F,_,hs,_⟩:=id c;obtain⟨A,hA,_⟩:=hs.get j hj;have hl:=Sz hA;have hq:=get?_at hz;have hlt:=(Zej.1 hq).1;have hr:rs[n.toNat]? =some rs[n.toNat]:=Zef O;obtain⟨a',c',e⟩:=EJ (E:=E') (v:=(rs[n.toNat]).v) (l:=q) (Sy hA hr hq:(ownL E' rs[n.toNat] q).ok w A);have e':rs[n.toNat]=⟨a',q.length,c'⟩:=by
  generalize rs[n.toNat]=z at e;cases z;simp_all[Hd.v,Value.slice.injEq]
 have hg:get? rs n=some ⟨a',q.length,c'⟩:=by
  simp_all[get?,Zei]
 exact Eel (α:=Hd) c (.g i hi) hg (λp fr c=>h p a' c' fr (by rw[hr,e']) c) ho ho' hd hd' he ht hx hy
def Ava.ae{a':Option Addr}{c':Nat}{q:List Int}{n:Int}(j:Nat)(hr:rs[n.toNat]? =some ⟨a',q.length,c'⟩)(hz:get? xs n=some q)(hj:Γ[j]? =some (HP.all (ownL E) rs xs):=by rfl):Ava Γ Φ w (RO (.slice a' q.length c') q):=λS F hs hf=>by
 obtain⟨A,h1,h2⟩:=hs.get j hj;exact RV.sub (Io (E:=E) ((Sy h1 hr (get?_at hz):(ownL E ⟨a',q.length,c'⟩ q).ok w A):(TL E (.slice a' q.length c') q).ok w A)) λk _ hk=>.inr (h2 k hk)
def Cx.tka{a':Option Addr}{c':Nat}{q:List Int}{n:Int}(j:Nat)(c:Cx B N σ Γ Φ a w)(hr:rs[n.toNat]? =some ⟨a',q.length,c'⟩)(hz:get? xs n=some q)(hj:Γ[j]? =some (HP.all (ownL E) rs xs):=by rfl):Cx B N σ (rest [j] Γ++[TL E (.slice a' q.length c') q]) Φ a w:=
 c.pack [HP.all (ownL E) rs xs] [j] (λA h=>(Sy (Sep.sole h) hr (get?_at hz):(ownL E ⟨a',q.length,c'⟩ q).ok w A)) (by simp[hj]) U
def Cx.fza{a':Option Addr}{c':Nat}{q:List Int}{n:Int}(i j:Nat)(c:Cx B N σ Γ Φ a w)(hr:rs[n.toNat]? =some ⟨a',q.length,c'⟩)(hz:get? xs n=some q)(hi:Γ[i]? =some (SL E' v rs):=by rfl)(hj:Γ[j]? =some (HP.all (ownL E) rs xs):=by rfl)(hne:[i,j].Nodup:=by decide):Cx B N σ (rest [i,j] Γ) (Φ++[RO v xs,RO (.slice a' q.length c') q]) a w:=by
 obtain⟨h,S,F,h1,h2,h3⟩:=c;have hp:=h2.part [i,j] (Γ1:=[SL E' v rs,HP.all (ownL E) rs xs]) aN hne;obtain⟨S',F',hM,hs,hb,hfz⟩:=Sep.freeze hp.join2 h1;refine⟨h,S',F',hM,hs,(h3.sub λk _ hk=>hfz k hk).join (AllF.of [RO v xs,RO (.slice a' q.length c') q] ⟨HY (DZ E) hb,Io (E:=E) ((Sy (Tu hb) hr (get?_at hz):(ownL E ⟨a',q.length,c'⟩ q).ok w F'):(TL E (.slice a' q.length c') q).ok w F'),trivial⟩)⟩
def Cx.tk2{a' a2:Option Addr}{c' c2:Nat}{q q2:List Int}{n n2:Int}(j:Nat)(c:Cx B N σ Γ Φ a w)(hr:rs[n.toNat]? =some ⟨a',q.length,c'⟩)(hz:get? xs n=some q)(hr2:rs[n2.toNat]? =some ⟨a2,q2.length,c2⟩)(hz2:get? xs n2=some q2)(hne:n2.toNat<n.toNat:=by decide)(hj:Γ[j]? =some (HP.all (ownL E) rs xs):=by rfl):
  Cx B N σ (rest [j] Γ++[TL E (.slice a' q.length c') q]) (Φ++[RO (.slice a2 q2.length c2) q2]) a w:=by
 obtain⟨h,S,F,h1,h2,h3⟩:=c;have hp:=h2.part [j] (Γ1:=[HP.all (ownL E) rs xs]) (by simp[hj]) U;have h4:Sep (HP.two (ownL E ⟨a',q.length,c'⟩ q) (.but (ownL E) n.toNat rs xs)::rest [j] Γ) w S:=Sep.imp hp λA hA=>Qc hA hr (get?_at hz);have h5:=h4.two;have h6:Sep (HP.but (ownL E) n.toNat rs xs::(rest [j] Γ++[TL E (.slice a' q.length c') q])) w S:=by
  have:=Zn (Γ2:=[ownL E ⟨a',q.length,c'⟩ q]) h5;exact this
 obtain⟨S',F',hM,hs,hb,hfz⟩:=Sep.freeze h6 h1;refine⟨h,S',F',hM,hs,(h3.sub λk _ hk=>hfz k hk).add ?_⟩;have hb1:(HP.all (ownL E) (rs.take n.toNat) (xs.take n.toNat)).ok w F':=SC hb;have hb2:(ownL E ⟨a2,q2.length,c2⟩ q2).ok w F':=Sy hb1 (i:=n2.toNat) ag (by simp_all[ZeO,Zei,get?_at]);exact Io (E:=E) (hb2:(TL E (.slice a2 q2.length c2) q2).ok w F')
end
section
variable{P:Program}{B:Bs}{N:Nat}{σ:List (Nat×Value)}{Γ:List HP}{Φ Φ1:List RF}{a:Act}{w:World}{Q:Exit->Act->World->Prop}
  {draw:Bool}{ms:List Nat}{ops:Array Oper}{pds:List Pd}{j:Nat}{dst:Option Tmp}{g:Option (Nat×Bool)}{ty:TypeId}{x:Operand}{pos:String}{af:Array Edge}
def NclV{args:List Value}{f:FuncId}{xs:Array Operand}{ts:Array TypeId}{vs:List Value}{u:Value}(c:Cx B N σ Γ Φ a w)(hcon:gc ops pds ops.size j->Con P f args [] Φ1 λ(_:Unit)=>(vs,[],[]))(ro:AvaL Γ Φ w Φ1)
  (hf:∀(args:Array Value)(w:World),(callFunc f args).run P w= .ok (.enter f args) w)(hv:Go.GL.tup vs=u:=by rfl)(ho:ops[j]? =some ⟨dst,.call ⟨.value x,xs,ts⟩,ty,pos,af,g⟩:=by rfl)(hx:envP ops σ pds j x=some (.func (.func f) #[] #[]):=by kernel_rfl)
  (hargs:xs.toList.map (envP ops σ pds j)=args.map some:=by kernel_rfl)(hG:Good ops pds [])(hpd:pds.getD j .any= .eq u):NPB P draw ms ops pds a w Q j:=
 ZbE args [] hG c.fr hf ho hx hargs λw' hC hg=>by
  rw[ZeM];have hro:AllF Φ1 w (λk=>k<w.heap.size):=by
   obtain⟨_,S0,F0,hM0,hs0,hF0⟩:=c;exact(AvaL.all ro hs0 hF0).sub λk hk _=>hk
  refine(hcon hg w' Non (λk=>k<w.heap.size) (Sep.nil _ _) (hro.chg hC λ_ _ h=>h.elim) (λ_ h=>h.elim) (λk hk=>Zeu hk hC.size) (λ_ h=>h.elim)).mono ?_;rintro e w'' ⟨i,S',F',rfl,hM',_,_⟩;exact⟨_,rfl,hM'.chg.mono λk hk=>hk,by rw[hpd];exact hv⟩
end
end Go.GL
end
