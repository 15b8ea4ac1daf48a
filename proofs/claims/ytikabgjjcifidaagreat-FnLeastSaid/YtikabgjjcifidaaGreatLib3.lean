/- Texts of this claim put into one: library or plain laws, without the program under test. -/
import Derived.Test.YtikabgjjcifidaaGreatLib2
import Derived.ChangeArms
import Derived.ChangeOld
import Derived.WideShapes
import Derived.Test.YtikabgjjcifidaaGreatLib1
import Derived.Maps.RangeWalk
import Derived.Shelf.SlSortCmp.NoneTotal
import Derived.Lib.Strings
set_option linter.unusedSimpArgs false
set_option linter.unusedVariables false
set_option linter.defProp false
section
namespace Go.GL
open Go.RowKit
section
variable{P:Program}{B:Bs}{N:Nat}{Z:List (Nat×Value)}{Γ:List HP}{Φ:List RF}{a:Act}{w:World}{Q:Exit->Act->World->Prop}
  {ops:Array Oper}{k d d2 d3:Nat}{t t' s' ty ty' ty2 yt:TypeId}{pos pos' pos2:String}{af af' af2:Array Edge}{x y y' z:Operand}{kd kk:IntKind}
def numOf:Option Value->Option Int
 |some (.int _ n)=>some n
 |_=>none
theorem Yk{o:Option Value}{n:Int}(h:numOf o=some n):∃kd,o=some (.int kd n):=by
 unfold numOf at h;grind
def Eix{s:Str}{n r:Int}(c:Cx B N Z Γ Φ a w)(hz:sidx? s n=some r)(h:∀fr,Cx B N ((d,.int .u8 r)::Z) Γ Φ fr w->wpFrom P ops Q (k+1) fr w)
  (ho:ops[k]? =some ⟨some d,.index t x y,ty,pos,af,none⟩:=by rfl)(hd:Nat.blt d N=true:=by rfl)(ht:P.underlying t=some .string:=by kernel_rfl)(hx:opd Z x=some s.val:=by kernel_rfl)(hy:opd Z y=some (.int kd n):=by kernel_rfl):wpFrom P ops Q k a w:=
 BV ht ho hd c.fr hx hy hz λfr hF=>h fr (c.to hF)
def Ecat{s1 s2 s3:Str}(c:Cx B N Z Γ Φ a w)(hz:cat? s1 s2=some s3)(h:∀fr,Cx B N ((d,s3.val)::Z) Γ Φ fr w->wpFrom P ops Q (k+1) fr w)
  (ho:ops[k]? =some ⟨some d,.binOp .add t x y yt,ty,pos,af,none⟩:=by rfl)(hd:Nat.blt d N=true:=by rfl)(hx:opd Z x=some s1.val:=by kernel_rfl)(hy:opd Z y=some s2.val:=by kernel_rfl):wpFrom P ops Q k a w:=
 ZaP ho hd c.fr hx hy hz λfr hF=>h fr (c.to hF)
def Ebs{E:TypeId}{v:Value}{l:List Byt}(c:Cx B N Z Γ Φ a w)(hl:Ava Γ Φ w (RO v l))(h:∀fr,Cx B N ((d,(strOf l).val)::Z) Γ Φ fr w->wpFrom P ops Q (k+1) fr w)(ht:P.underlying t=some (.slice E))
  (ho:ops[k]? =some ⟨some d,.convert t t' x,ty,pos,af,none⟩:=by rfl)(hd:Nat.blt d N=true:=by rfl)(hE:P.underlying E=some (.int .u8):=by kernel_rfl)(ht':P.underlying t'=some .string:=by kernel_rfl)(hx:opd Z x=some v:=by kernel_rfl):wpFrom P ops Q k a w:=by
 obtain⟨F,hl⟩:=c.use hl;exact Iy ht hE ht' ho hd c.fr hx hl λfr hF=>h fr (c.to hF)
def Eshk{m n r:Int}(c:Cx B N Z Γ Φ a w)(hz:shrK? kk m n=some r)(h:∀fr,Cx B N ((d,.int kk r)::Z) Γ Φ fr w->wpFrom P ops Q (k+1) fr w)
  (ho:ops[k]? =some ⟨some d,.binOp .shr t x y yt,ty,pos,af,none⟩:=by rfl)(hd:Nat.blt d N=true:=by rfl)(hx:opd Z x=some (.int kk m):=by kernel_rfl)(hy:numOf (opd Z y)=some n:=by kernel_rfl):wpFrom P ops Q k a w:=by
 obtain⟨kd,hy⟩:=Yk hy;exact ZaA ho hd c.fr hx hy hz λfr hF=>h fr (c.to hF)
def Eshl{m n r:Int}(c:Cx B N Z Γ Φ a w)(hz:shl? m n=some r)(h:∀fr,Cx B N ((d,.int .i64 r)::Z) Γ Φ fr w->wpFrom P ops Q (k+1) fr w)
  (ho:ops[k]? =some ⟨some d,.binOp .shl t x y yt,ty,pos,af,none⟩:=by rfl)(hd:Nat.blt d N=true:=by rfl)(hx:opd Z x=some (.int .i64 m):=by kernel_rfl)(hy:numOf (opd Z y)=some n:=by kernel_rfl):wpFrom P ops Q k a w:=by
 obtain⟨kd,hy⟩:=Yk hy;exact Zbk ho hd c.fr hx hy hz λfr hF=>h fr (c.to hF)
def Eshr{m n r:Int}(c:Cx B N Z Γ Φ a w)(hz:shr? m n=some r)(h:∀fr,Cx B N ((d,.int .i64 r)::Z) Γ Φ fr w->wpFrom P ops Q (k+1) fr w)
  (ho:ops[k]? =some ⟨some d,.binOp .shr t x y yt,ty,pos,af,none⟩:=by rfl)(hd:Nat.blt d N=true:=by rfl)(hx:opd Z x=some (.int .i64 m):=by kernel_rfl)(hy:numOf (opd Z y)=some n:=by kernel_rfl):wpFrom P ops Q k a w:=by
 obtain⟨kd,hy⟩:=Yk hy;exact ZaO ho hd c.fr hx hy hz λfr hF=>h fr (c.to hF)
def Equo{m n r:Int}(c:Cx B N Z Γ Φ a w)(hz:quo? m n=some r)(h:∀fr,Cx B N ((d,.int .i64 r)::Z) Γ Φ fr w->wpFrom P ops Q (k+1) fr w)
  (ho:ops[k]? =some ⟨some d,.binOp .quo t x y yt,ty,pos,af,none⟩:=by rfl)(hd:Nat.blt d N=true:=by rfl)(hx:opd Z x=some (.int .i64 m):=by kernel_rfl)(hy:opd Z y=some (.int .i64 n):=by kernel_rfl):wpFrom P ops Q k a w:=
 ZaT ho hd c.fr hx hy hz λfr hF=>h fr (c.to hF)
def Erem{m n r:Int}(c:Cx B N Z Γ Φ a w)(hz:rem? m n=some r)(h:∀fr,Cx B N ((d,.int .i64 r)::Z) Γ Φ fr w->wpFrom P ops Q (k+1) fr w)
  (ho:ops[k]? =some ⟨some d,.binOp .rem t x y yt,ty,pos,af,none⟩:=by rfl)(hd:Nat.blt d N=true:=by rfl)(hx:opd Z x=some (.int .i64 m):=by kernel_rfl)(hy:opd Z y=some (.int .i64 n):=by kernel_rfl):wpFrom P ops Q k a w:=
 Zbm ho hd c.fr hx hy hz λfr hF=>h fr (c.to hF)
def Ebin{op:BinOp}{vx vy u:Value}(c:Cx B N Z Γ Φ a w)(hg:(eqGuard op t x y vx vy).run P w= .ok () w)(hr:(binOp op t vx vy).run P w= .ok u w)(h:∀fr,Cx B N ((d,u)::Z) Γ Φ fr w->wpFrom P ops Q (k+1) fr w)
  (ho:ops[k]? =some ⟨some d,.binOp op t x y yt,ty,pos,af,none⟩:=by rfl)(hd:Nat.blt d N=true:=by rfl)(hx:opd Z x=some vx:=by kernel_rfl)(hy:opd Z y=some vy:=by kernel_rfl):wpFrom P ops Q k a w:=
 Pm ho hd c.fr hx hy hg hr λfr hF=>h fr (c.to hF)
def Epk{b:Bool}{p:Operand}{v:Value}(c:Cx B N Z Γ Φ a w)(h:∀fr,Cx B N ((d,v)::Z) Γ Φ fr w->wpFrom P ops Q (k+1) fr w)(ho:ops[k]? =some ⟨some d,.pick p x y,ty,pos,af,none⟩:=by rfl)(hd:Nat.blt d N=true:=by rfl)
  (hc:opd Z p=some (.bool b):=by kernel_rfl)(hv:opd Z (if b then x else y)=some v:=by kernel_rfl):wpFrom P ops Q k a w:=GZ ho hd c.fr hc hv λfr hF=>h fr (c.to hF)
theorem Ebx(cs:List Value)(c:Cx B N Z Γ Φ a w)(h:∀b fr w',Cx B N ((d,.pointer (some ⟨b,0,none⟩))::Z) (Γ++[BX b t cs]) Φ fr w'->wpFrom P ops Q (k+1) fr w')(hv:(opd Z x).map (λv=>v.cells.toList)=some cs:=by kernel_rfl)
  (ho:ops[k]? =some ⟨some d,.box t x,ty,pos,af,none⟩:=by rfl)(hd:Nat.blt d N=true:=by rfl):wpFrom P ops Q k a w:=by
 obtain⟨hF,S,F,hM,hs,hf⟩:=c;cases hx:opd Z x with
 |none=>simp_all
 |some v=>
  exact ZaV hs hM cs ho hd hF hx (by simp_all) λb w' S' fr hs' hp hF'=>h b fr w' ⟨hF',S',F,hM.stp hp,ZL (Γ2:=[_]) hs',hf.chg hp.chg λk hk hS=>hM.dj k hS hk⟩
theorem Eal(cs:List Value)(c:Cx B N Z Γ Φ a w)(h:∀b fr w',Cx B N ((d,.pointer (some ⟨b,0,none⟩))::Z) (Γ++[BX b t cs]) Φ fr w'->wpFrom P ops Q (k+1) fr w')(ho:ops[k]? =some ⟨some d,.alloc t,ty,pos,af,none⟩:=by rfl)(hd:Nat.blt d N=true:=by rfl)
  (hz:(P.info? t).map (λi=>i.zero.map λz=>z.cells.toList)=some (some cs):=by kernel_rfl):wpFrom P ops Q k a w:=by
 obtain⟨hF,S,F,hM,hs,hf⟩:=c;cases hi:P.info? t with
 |none=>simp_all
 | some i=>
  rw[hi]at hz;cases hzz:i.zero with
  |none=>simp_all
  |some z=>
   simp only[ZbF,hzz,Option.some.injEq]at hz;exact AY (z:=z) hs hM cs ho hd hF (by simp_all) hz λb w' S' fr hs' hp hF'=>h b fr w' ⟨hF',S',F,hM.stp hp,ZL (Γ2:=[_]) hs',hf.chg hp.chg λk hk hS=>hM.dj k hS hk⟩
def Esb{b bt:Nat}{cs:List Value}(i n:Nat)(u:Value)(c:Cx B N Z Γ Φ a w)(h:∀w',Cx B N Z (Γ.set i (BX b bt (cs.set n u))) Φ a w'->wpFrom P ops Q (k+1) a w')(hi:Γ[i]? =some (BX b bt cs):=by rfl)(ho:ops[k]? =some ⟨none,.store t x y,ty,pos,af,none⟩:=by rfl)
  (hn:Nat.blt n cs.length=true:=by rfl)(h1:u.oneCell'=true:=by rfl)(ht:(P.info? t).map (·.size)=some 1:=by kernel_rfl)(hx:opd Z x=some (.pointer (some ⟨b,n,none⟩)):=by kernel_rfl)(hy:opd Z y=some u:=by kernel_rfl):wpFrom P ops Q k a w:=by
 obtain⟨hF,S,F,hM,hs,hf⟩:=c;exact Jy i hs hM hi (cs.set n u) ho hF hx hy ht hn h1 rfl λw' S' hs' hp hF'=>h w' ⟨hF',S',F,hM.stp hp,hs',hf.chg hp.chg λk hk hS=>hM.dj k hS hk⟩
theorem Ess{b bt:Nat}{cs:List Value}(i:Nat)(cs':List Value)(c:Cx B N Z Γ Φ a w)(h:∀w',Cx B N Z (Γ.set i (BX b bt cs')) Φ a w'->wpFrom P ops Q (k+1) a w')(hi:Γ[i]? =some (BX b bt cs):=by rfl)(ho:ops[k]? =some ⟨none,.store t x y,ty,pos,af,none⟩:=by rfl)
  (hl:cs'.length=cs.length:=by rfl)(h1:(cs'.all λz=>z.oneCell')=true:=by rfl)(ht:(P.info? t).map (·.size)=some cs'.length:=by kernel_rfl)(hx:opd Z x=some (.pointer (some ⟨b,0,none⟩)):=by kernel_rfl)(hy:(opd Z y).map (λv=>v.cells.toList)=some cs':=by kernel_rfl):wpFrom P ops Q k a w:=by
 obtain⟨hF,S,F,hM,hs,hf⟩:=c;cases hx':opd Z y with
 |none=>simp_all
 |some v=>
  exact KY i hs hM hi cs' ho hF hx hx' ht hl (by simp_all) h1 λw' S' hs' hp hF'=>h w' ⟨hF',S',F,hM.stp hp,hs',hf.chg hp.chg λk hk hS=>hM.dj k hS hk⟩
section
variable{U:Type}{E:TypeId}{v:Value}{l m r:List U}
def Eel[Flat U]{n:Int}{q:U}(c:Cx B N Z Γ Φ a w)(hl:Ava Γ Φ w (RO v l))(hz:get? l n=some q)(h:∀p fr,Cx B N ((d2,Rep.val U (Flat.enc q))::(d,p)::Z) Γ Φ fr w->wpFrom P ops Q (k+2) fr w)
  (ho:ops[k]? =some ⟨some d,.indexAddr t x y,ty,pos,af,none⟩:=by rfl)(ho':ops[k+1]? =some ⟨some d2,.load t' (.tmp d),ty',pos',af',none⟩:=by rfl)(hd:Nat.blt d N=true:=by rfl)(hd':Nat.blt d2 N=true:=by rfl)
  (he:Ty P t' U:=by constructor<;>kernel_rfl)(ht:P.underlying t=some (.slice t'):=by kernel_rfl)(hx:opd Z x=some v:=by kernel_rfl)(hy:numOf (opd Z y)=some n:=by kernel_rfl):wpFrom P ops Q k a w:=by
 obtain⟨F,hl⟩:=c.use hl;obtain⟨kd,hy⟩:=Yk hy;exact Zac _ he ht ho ho' rfl hd hd' c.fr hx hl hy (get?_nn hz) (get?_at hz) rfl λp fr hF=>h p fr (c.to hF)
def Eem[Rep U]{n:Int}{q:U}(c:Cx B N Z Γ Φ a w)(hl:Ava [] Φ w (RO v l))(hz:get? l n=some q)(h:∀p u fr,Cx B N ((d2,u)::(d,p)::Z) Γ (Φ++[RO u q]) fr w->wpFrom P ops Q (k+2) fr w)
  (ho:ops[k]? =some ⟨some d,.indexAddr t x y,ty,pos,af,none⟩:=by rfl)(ho':ops[k+1]? =some ⟨some d2,.load t' (.tmp d),ty',pos',af',none⟩:=by rfl)(hd:Nat.blt d N=true:=by rfl)(hd':Nat.blt d2 N=true:=by rfl)
  (he:Ty P t' U:=by constructor<;>kernel_rfl)(ht:P.underlying t=some (.slice t'):=by kernel_rfl)(hx:opd Z x=some v:=by kernel_rfl)(hy:numOf (opd Z y)=some n:=by kernel_rfl):wpFrom P ops Q k a w:=by
 obtain⟨hF,S,F,hM,hs,hf⟩:=c;obtain⟨kd,hy⟩:=Yk hy;have hl':=hl Non F (Sep.nil w Non) hf;exact Bq he ht ho ho' rfl hd hd' hF hx hl' hy (get?_nn hz) (get?_at hz) λp u fr hr hF'=>h p u fr ⟨hF',S,F,hM,hs,hf.add (RV.sub hr λ_ _ h=>h.elim id λh=>h.elim)⟩
theorem Eef[Rep U]{n:Int}{q:U}{u:Value}{fl off:Nat}(c:Cx B N Z Γ Φ a w)(hl:Ava Γ Φ w (RO v l))(hz:get? l n=some q)(hu:∀{w:World}{F:Nat->Prop}{cs:List Value},Rep.ok w F cs q->cs[off]? =some u)
  (h:∀p p2 fr,Cx B N ((d3,u)::(d2,p2)::(d,p)::Z) Γ Φ fr w->wpFrom P ops Q (k+3) fr w)
  (ho:ops[k]? =some ⟨some d,.indexAddr t x y,ty,pos,af,none⟩:=by rfl)(ho2:ops[k+1]? =some ⟨some d2,.fieldAddr s' (.tmp d) fl,ty2,pos2,af2,none⟩:=by rfl)(ho':ops[k+2]? =some ⟨some d3,.load t' (.tmp d2),ty',pos',af',none⟩:=by rfl)
  (hd:Nat.blt d N=true:=by rfl)(hd2:Nat.blt d2 N=true:=by rfl)(hd3:Nat.blt d3 N=true:=by rfl)(he:Ty P s' U:=by constructor<;>kernel_rfl)(ht:P.underlying t=some (.slice s'):=by kernel_rfl)(hT:Ty P t' Int:=by constructor<;>kernel_rfl)
  (hoff:fieldOff P s' fl=some off:=by kernel_rfl)(hx:opd Z x=some v:=by kernel_rfl)(hy:numOf (opd Z y)=some n:=by kernel_rfl):wpFrom P ops Q k a w:=by
 obtain⟨F,hl⟩:=c.use hl;obtain⟨kd,hy⟩:=Yk hy;refine ZE c.fr ho rfl rfl (ZbZ.mp hd) (RH rfl ht he (Zg c.fr hx) hl (Zg c.fr hy) (get?_nn hz) (get?_at hz)) λp w1 fr1 hpw hF1=>?_;obtain⟨⟨ad,cs,rfl,hFb,hok,hc⟩,rfl⟩:=hpw;have hp1:=hF1.get d (.pointer (some ad)) (by simp)
 refine ZE hF1 ho2 rfl rfl (ZbZ.mp hd2) (R:=λp w2=>p= .pointer (some (ad.add off))/\w1=w2) (Zi (Sa (P:=P) (ρ:=λy=>match y with|.tmp s=>if s=d then some (.pointer (some ad))else none|_=>none) (λy z hy=>by
  grind) (by simp[pe,hoff]) w1) ⟨rfl,rfl⟩) λp2 w2 fr2 hp2 hF2=>?_
 obtain⟨rfl,rfl⟩:=hp2;have hc1:Cells w1 (ad.add off) [u]:=λj q' hq=>by
  cases j with
  |zero=>
   simp only[ZcN,Option.some.injEq]at hq;subst hq;exact hc off u (hu hok)
  |succ j=>simp at hq
 refine ZE hF2 ho' rfl rfl (ZbZ.mp hd3) (R:=λz w3=>z=u/\w1=w3) (Zi (v:=u) (w':=w1) ?_ ⟨rfl,rfl⟩) λz w3 fr3 hz3 hF3=>?_
 ·have hd1:=hF2.get d2 (.pointer (some (ad.add off))) (by simp);have:=Xa hT (cs:=[u]) rfl hc1;have hv:Rep.val Int [u]=u:=rfl;simp_all[execOp,Instr.loadAt,Instr.sureAddr]
 ·obtain⟨rfl,rfl⟩:=hz3;exact h _ _ fr3 (c.to hF3)
theorem Esl[Rep U]{lo hi:Option Operand}{m n:Int}(E:TypeId)(c:Cx B N Z Γ Φ a w)(hl:Ava [] Φ w (RO v l))(hr:cut? l m n=some r)(h:∀u fr,Cx B N ((d,u)::Z) Γ (Φ++[RO u r]) fr w->wpFrom P ops Q (k+1) fr w)
  (ho:ops[k]? =some ⟨some d,.slice t x lo hi none,ty,pos,af,none⟩:=by rfl)(hd:Nat.blt d N=true:=by rfl)(he:Ty P E U:=by constructor<;>kernel_rfl)(ht:P.underlying t=some (.slice E):=by kernel_rfl)(hx:opd Z x=some v:=by kernel_rfl)
  (hlo:(match lo with|none=>some 0|some y=>numOf (opd Z y))=some m:=by kernel_rfl)(hhi:(match hi with|none=>some (len l)|some y=>numOf (opd Z y))=some n:=by kernel_rfl):wpFrom P ops Q k a w:=by
 obtain⟨hF,S,F,hM,hs,hf⟩:=c;have hl':=hl Non F (Sep.nil w Non) hf;refine Am he ht ho hd hF hx hl' (m:=m) (n:=n) ?_ ?_ hr λu fr hr hF'=>h u fr ⟨hF',S,F,hM,hs,hf.add (RV.sub hr λ_ _ h=>h.elim id λh=>h.elim)⟩
 ·grind[Option.some.inj,Yk]
 ·cases hi with
  |none=>exact(Option.some.inj hhi).symm
  |some y=>simp_all[Yk]
end
section
variable{U:Type}[Flat U]{E:TypeId}{v u:Value}{l m r:List U}
theorem Eset{n:Int}{q:U}(i:Nat)(c:Cx B N Z Γ Φ a w)(hr:set? l n q=some r)(h:∀p fr w',Cx B N ((d,p)::Z) (Γ.set i (SL E v r)) Φ fr w'->wpFrom P ops Q (k+2) fr w')(hi:Γ[i]? =some (SL E v l):=by rfl)
  (ho:ops[k]? =some ⟨some d,.indexAddr t x y,ty,pos,af,none⟩:=by rfl)(ho':ops[k+1]? =some ⟨none,.store t' (.tmp d) z,ty',pos',af',none⟩:=by rfl)(hte:t'=E:=by rfl)(hd:Nat.blt d N=true:=by rfl)(hz:z≠ .tmp d:=by simp)
  (he:Ty P E U:=by constructor<;>kernel_rfl)(ht:P.underlying t=some (.slice E):=by kernel_rfl)(hx:opd Z x=some v:=by kernel_rfl)(hy:numOf (opd Z y)=some n:=by kernel_rfl)(hq:opd Z z=some (Rep.val U (Flat.enc q)):=by kernel_rfl):wpFrom P ops Q k a w:=by
 obtain⟨hF,S,F,hM,hs,hf⟩:=c;obtain⟨kd,hy⟩:=Yk hy;exact Zbb i hs hM hi ht he ho ho' hte hd hF hx hy hz hq rfl hr λw' S' fr p hs' hp hF'=>h p fr w' ⟨hF',S',F,hM.stp hp,hs',hf.chg hp.chg λk hk hS=>hM.dj k hS hk⟩
def Esf{n:Int}{q q':U}{fl off:Nat}(i:Nat)(u:Value)(c:Cx B N Z Γ Φ a w)(hq:get? l n=some q)(hr:set? l n q'=some r)(h:∀p p2 fr w',Cx B N ((d2,p2)::(d,p)::Z) (Γ.set i (SL E v r)) Φ fr w'->wpFrom P ops Q (k+3) fr w')(hi:Γ[i]? =some (SL E v l):=by rfl)
  (hop:ops[k]? =some ⟨some d,.indexAddr t x y,ty,pos,af,none⟩:=by rfl)(hop2:ops[k+1]? =some ⟨some d2,.fieldAddr s' (.tmp d) fl,ty2,pos2,af2,none⟩:=by rfl)(hop':ops[k+2]? =some ⟨none,.store t' (.tmp d2) z,ty',pos',af',none⟩:=by rfl)
  (hd:Nat.blt d N=true:=by rfl)(hd2:Nat.blt d2 N=true:=by rfl)(hz:(match z with|.tmp s=>s !=d&&s !=d2|_=>true)=true:=by rfl)(hoff:fieldOff P s' fl=some off:=by rfl)(hlt:Nat.blt off (Rep.sz U)=true:=by rfl)(h1:u.oneCell'=true:=by rfl)
  (hu:Flat.enc q'=(Flat.enc q).set off u:=by rfl)(he:Ty P E U:=by constructor<;>kernel_rfl)(ht:P.underlying t=some (.slice E):=by kernel_rfl)(hT:(P.info? t').map (·.size)=some 1:=by kernel_rfl)
  (hx:opd Z x=some v:=by kernel_rfl)(hy:numOf (opd Z y)=some n:=by kernel_rfl)(hzu:opd Z z=some u:=by kernel_rfl):wpFrom P ops Q k a w:=by
 obtain⟨hF,S,F,hM,hs,hf⟩:=c;obtain⟨kd,hy⟩:=Yk hy;exact JS i hs hM hi ht he hop hop2 hop' hd hd2 hF hx hy hz hzu hoff hlt hT h1 hq hu hr λw' S' fr p p2 hs' hp hF'=>h p p2 fr w' ⟨hF',S',F,hM.stp hp,hs',hf.chg hp.chg λk hk hS=>hM.dj k hS hk⟩
def Emk{n:Int}{zc:U}(E:TypeId)(c:Cx B N Z Γ Φ a w)(hr:mk? n zc=some r)(h:∀a' c' fr w',Cx B N ((d,.slice a' (List.length r) c')::Z) (Γ++[SL E (.slice a' (List.length r) c') r]) Φ fr w'->wpFrom P ops Q (k+1) fr w')
  (ho:ops[k]? =some ⟨some d,.makeSlice t x y,ty,pos,af,none⟩:=by rfl)(hd:Nat.blt d N=true:=by rfl)(he:ElT P E U:=by refine elT ?_;kernel_rfl)(ht:P.underlying t=some (.slice E):=by kernel_rfl)
  (hz:(P.info? E).map (λi=>i.zero.map λz=>z.cells.toList)=some (some (Flat.enc zc)):=by kernel_rfl)(hx:opd Z x=some (.int .i64 n):=by kernel_rfl)(hy:opd Z y=some (.int .i64 n):=by kernel_rfl):wpFrom P ops Q k a w:=by
 obtain⟨hF,S,F,hM,hs,hf⟩:=c;exact Zao hs hM ht he (Eo _ hz) ho hd hF hx hy hr λa' c' w' S' fr hs' hp hF'=>h a' c' fr w' ⟨hF',S',F,hM.stp hp,ZL (Γ2:=[_]) hs',hf.chg hp.chg λk hk hS=>hM.dj k hS hk⟩
def Elt{n:Nat}{parts:Array (Nat×Operand)}(E:TypeId)(l:List U)(c:Cx B N Z Γ Φ a w)(h:∀a' c' fr w',Cx B N ((d,.slice a' (List.length l) c')::Z) (Γ++[SL E (.slice a' (List.length l) c') l]) Φ fr w'->wpFrom P ops Q (k+1) fr w')
  (ho:ops[k]? =some ⟨some d,.buildSlice t n parts,ty,pos,af,none⟩:=by rfl)(hd:Nat.blt d N=true:=by rfl)(hln:l.length=n:=by rfl)(hmax:Nat.ble l.length room=true:=by rfl)
  (hv:parts.toList.map (λp=>opd Z p.2)=(l.map λx=>Rep.val U (Flat.enc x)).map some:=by kernel_rfl)
  (hrun:∀w,(Instr.buildSlice t n ((parts.toList.map (·.1)).zip (l.map λx=>Rep.val U (Flat.enc x))).toArray).run P w= .ok (.slice (some ⟨w.heap.size,0,none⟩) n n) (w.alloc (.cells (l.map Flat.enc).flatten.toArray E)):=by intro _;kernel_rfl):wpFrom P ops Q k a w:=by
 obtain⟨hF,S,F,hM,hs,hf⟩:=c;exact Zbd hs hM (l.map Flat.enc).flatten (l.map Flat.enc) l ho hd hF _ hv hrun (Ta _) rfl hln hmax λa' c' w' S' fr hs' hp hF'=>h a' c' fr w' ⟨hF',S',F,hM.stp hp,ZL (Γ2:=[_]) hs',hf.chg hp.chg λk hk hS=>hM.dj k hS hk⟩
def Eap(i:Nat)(c:Cx B N Z Γ Φ a w)(hu:Ava Γ Φ w (RO u m))(hr:app? l m=some r)(h:∀a' c' fr w',Cx B N ((d,.slice a' (List.length r) c')::Z) (Γ.set i (SL E (.slice a' (List.length r) c') r)) Φ fr w'->wpFrom P ops Q (k+1) fr w')(hi:Γ[i]? =some (SL E v l):=by rfl)
  (ho:ops[k]? =some ⟨some d,.call ⟨.builtin .append,#[x,y],#[t,t']⟩,ty,pos,af,none⟩:=by rfl)(htt:t'=t:=by rfl)(hd:Nat.blt d N=true:=by rfl)(he:ElT P E U:=by refine elT ?_;kernel_rfl)(ht:P.underlying t=some (.slice E):=by kernel_rfl)
  (hx:opd Z x=some v:=by kernel_rfl)(hy:opd Z y=some u:=by kernel_rfl):wpFrom P ops Q k a w:=by
 obtain⟨F',hu⟩:=c.use hu;obtain⟨hF,S,F,hM,hs,hf⟩:=c;exact Bl i hs hM hi ht he ho htt hd hF hx hy hu hr λa' c' w' S' fr hs' hp hF'=>h a' c' fr w' ⟨hF',S',F,hM.stp hp,hs',hf.chg hp.chg λk hk hS=>hM.dj k hS hk⟩
def Efr{lo:Option Operand}{hi':Operand}{b:Option Addr}{cp len0:Nat}{n:Int}(i:Nat)(c:Cx B N Z Γ Φ a w)(hr:cut? l 0 n=some r)(h:∀c' fr w',Cx B N ((d,.slice b (List.length r) c')::Z) (Γ.set i (SL E (.slice b (List.length r) c') r)) Φ fr w'->wpFrom P ops Q (k+1) fr w')
  (hi:Γ[i]? =some (SL E (.slice b len0 cp) l):=by rfl)(ho:ops[k]? =some ⟨some d,.slice t x lo (some hi') none,ty,pos,af,none⟩:=by rfl)(hd:Nat.blt d N=true:=by rfl)(he:Ty P E U:=by constructor<;>kernel_rfl)(ht:P.underlying t=some (.slice E):=by kernel_rfl)
  (hx:opd Z x=some (.slice b len0 cp):=by kernel_rfl)(hlo:(match lo with|none=>some 0|some y=>numOf (opd Z y))=some 0:=by kernel_rfl)(hhi:numOf (opd Z hi')=some n:=by kernel_rfl):wpFrom P ops Q k a w:=by
 obtain⟨hF,S,F,hM,hs,hf⟩:=c;obtain⟨kd,hhi⟩:=Yk hhi;exact Ak i hs hM hi ht he ho hd hF hx (by grind[Yk]) hhi hr λc' w' S' fr hs' hp hF'=>h c' fr w' ⟨hF',S',F,hM.stp hp,hs',hf.chg hp.chg λk hk hS=>hM.dj k hS hk⟩
end
section
variable{K V:TypeId}{κ β:Type}[Flat κ][Flat β][DecidableEq κ]{T:MapT P K V κ β}{b:Nat}{m:List (κ×β)}
def Emm(T:MapT P K V κ β)(c:Cx B N Z Γ Φ a w)(h:∀b fr w',Cx B N ((d,.map (some b))::Z) (Γ++[MP T b []]) Φ fr w'->wpFrom P ops Q (k+1) fr w')(ho:ops[k]? =some ⟨some d,.makeMap t none,ty,pos,af,none⟩:=by rfl)(hd:Nat.blt d N=true:=by rfl)
  (hm:∀w,(Instr.makeMap t none).run P w= .ok (.map (some w.heap.size)) (w.alloc (.map #[] 0)):=by exact λw=>by simp[Instr.makeMap,run_newObj_alloc]):wpFrom P ops Q k a w:=by
 obtain⟨hF,S,F,hM,hs,hf⟩:=c;exact Mi T hs hM hm ho hd hF λb w' S' fr hs' hp hF'=>h b fr w' ⟨hF',S',F,hM.stp hp,ZL (Γ2:=[_]) hs',hf.chg hp.chg λk hk hS=>hM.dj k hS hk⟩
def Emp{q:κ}{e:β}{m':List (κ×β)}{fit:κ->Bool}{efit:β->Bool}(i:Nat)(c:Cx B N Z Γ Φ a w)(hr:mputE? fit efit m q e=some m')(h:∀w',Cx B N Z (Γ.set i (MP T b m')) Φ a w'->wpFrom P ops Q (k+1) a w')(hi:Γ[i]? =some (MP T b m):=by rfl)(hfit:T.fit=fit:=by rfl)(hzz:T.efit=efit:=by rfl)
  (ho:ops[k]? =some ⟨none,.mapUpdate t x y z,ty,pos,af,none⟩:=by rfl)(ht:P.underlying t=some (.map K V):=by kernel_rfl)(hx:opd Z x=some (.map (some b)):=by kernel_rfl)(hy:opd Z y=some (Rep.val κ (Flat.enc q)):=by kernel_rfl)(hz:opd Z z=some (Rep.val β (Flat.enc e)):=by kernel_rfl):wpFrom P ops Q k a w:=by
 obtain⟨hF,S,F,hM,hs,hf⟩:=c;subst hfit;subst hzz;exact Nz T i hs hM hi ht ho hF (u:=q) (mputE?_fit hr) e (mputE?_efit hr) (mputE?_len hr) hx hy rfl hz rfl λw' S' hs' hp hF'=>h w' ⟨hF',S',F,hM.stp hp,by grind[mputE?_val],hf.chg hp.chg λk hk hS=>hM.dj k hS hk⟩
def Empb{q:κ}{T:MapT P K V κ Bool}{m m':List (κ×Bool)}{e:Bool}{fit:κ->Bool}(i:Nat)(c:Cx B N Z Γ Φ a w)(hr:mput? fit m q e=some m')(h:∀w',Cx B N Z (Γ.set i (MP T b m')) Φ a w'->wpFrom P ops Q (k+1) a w')(hi:Γ[i]? =some (MP T b m):=by rfl)(hfit:T.fit=fit:=by rfl)(hzz:T.efit=λ_=>true:=by rfl)
  (ho:ops[k]? =some ⟨none,.mapUpdate t x y z,ty,pos,af,none⟩:=by rfl)(ht:P.underlying t=some (.map K V):=by kernel_rfl)(hx:opd Z x=some (.map (some b)):=by kernel_rfl)(hy:opd Z y=some (Rep.val κ (Flat.enc q)):=by kernel_rfl)(hz:opd Z z=some (.bool e):=by kernel_rfl):wpFrom P ops Q k a w:=by
 obtain⟨hF,S,F,hM,hs,hf⟩:=c;subst hfit;exact Nz T i hs hM hi ht ho hF (u:=q) (mput?_fit hr) e (by rw[hzz]) (mput?_len hr) hx hy rfl hz rfl λw' S' hs' hp hF'=>h w' ⟨hF',S',F,hM.stp hp,by grind[mput?_val],hf.chg hp.chg λk hk hS=>hM.dj k hS hk⟩
end
end
section
variable{P:Program}{B:Bs}{N:Nat}{Z:List (Nat×Value)}{Γ:List HP}{Φ:List RF}{a a':Act}{w w':World}{Q:Exit->Act->World->Prop}{K:Act->World->Prop}
abbrev Cx.wd(_:Cx B N Z Γ Φ a w):World:=w
def Cx.swap{H H':HP}(i:Nat)(c:Cx B N Z Γ Φ a w)(f:∀A,H.ok w A->H'.ok w A)(hi:Γ[i]? =some H:=by rfl):Cx B N Z (Γ.set i H') Φ a w:=by
 obtain⟨h,S,F,h1,h2,h3⟩:=c;exact⟨h,S,F,h1,h2.swapT i hi f,h3⟩
def Cx.bxe{b t:Nat}{cs cs':List Value}(i:Nat)(c:Cx B N Z Γ Φ a w)(he:cs=cs')(hi:Γ[i]? =some (BX b t cs):=by rfl):Cx B N Z (Γ.set i (BX b t cs')) Φ a w:=c.swap i (λ_ h=>he▸h) hi
def Cx.nilf{U:Type}[Rep U](c:Cx B N Z Γ Φ a w):Cx B N Z Γ (Φ++[RO (.slice none 0 0) ([]:List U)]) a w:=c.add Ava.nil
def Cx.sl{U:Type}[Rep U]{v:Value}{l:List U}(i:Nat)(c:Cx B N Z Γ Φ a w)(hi:Φ[i]? =some (RO v l):=by rfl):∃b cp,v= .slice b l.length cp:=by
 obtain⟨F,h⟩:=c.use (Ava.f i hi);obtain⟨b,cp,h,_⟩:=RV.slice h;simp_all
def Cx.flat{L:List HP}(i:Nat)(c:Cx B N Z Γ Φ a w)(hi:Γ[i]? =some (HP.sep L):=by rfl):Cx B N Z (rest [i] Γ++L) Φ a w:=c.gam λS h=>by
 have:=h.part [i] (Γ1:=[HP.sep L]) (by simp[hi]) (by simp);simp_all[ZL,Sep.flat]
def Cx.fzd{ρ U:Type}[Flat ρ][Rep U]{own:ρ->U->HP}{E:TypeId}{v:Value}{rs:List ρ}{xs:List U}(ho:Owns own)(i j:Nat)(c:Cx B N Z Γ Φ a w)(hi:Γ[i]? =some (SL E v rs):=by rfl)(hj:Γ[j]? =some (HP.all own rs xs):=by rfl)(hne:[i,j].Nodup:=by decide):
  Cx B N Z (rest [i,j] Γ) (Φ++[RO v xs]) a w:=by
 obtain⟨h,S,F,h1,h2,h3⟩:=c;have hp:=h2.part [i,j] (Γ1:=[SL E v rs,HP.all own rs xs]) (by simp[hi,hj]) hne;obtain⟨S',F',hM,hs,hr,hfz⟩:=Sep.freezeD (L:=rest [i,j] Γ) ho hp h1;exact⟨h,S',F',hM,hs,(h3.sub λk _ hk=>hfz k hk).add hr⟩
def Cx.relend{ρ U:Type}[Flat ρ]{own:ρ->U->HP}{E:TypeId}{b:Option Addr}{n cp:Nat}{rs:List ρ}{xs:List U}(i j:Nat)(c:Cx B N Z Γ Φ a w)(hi:Γ[i]? =some (SL E (.slice b n cp) rs):=by rfl)(hj:Γ[j]? =some (HP.all own rs xs):=by rfl):
  n=xs.length/\Cx B N Z (Γ.set i (SL E (.slice b xs.length cp) rs)) Φ a w:=by
 obtain⟨h,S,F,h1,h2,h3⟩:=c;obtain⟨he,hs⟩:=Sep.relenD i j h2 hi hj;exact⟨he,h,S,F,h1,hs,h3⟩
def If{x y:Code}{o:Operand}{b:Bool}(c:Cx B N Z Γ Φ a w)(ht:b=true->x.wp P Q a w)(hf:b=false->y.wp P Q a w)(hb:opd Z o=some (.bool b):=by kernel_rfl):(Code.cond o x y).wp P Q a w:=IZ c.fr hb ht hf
def Rh{ops:Array Oper}(f:Nat)(h:RA P (hoist f ops) Q a w)(hb:hoistB f ops=true:=by kernel_rfl)(hQ:∀c a d v w,Q (.panic c) (Act.put a (some d) v) w->Q (.panic c) a w:=by exact λ_ _ _ _ _ h=>h):RA P ops Q a w:=EJ f hb hQ h
def Rhs{ops:Array Oper}(is:List Nat)(c:Cx B N Z Γ Φ a w)(n:Nat)(h:RA P (hoistAll is ops) Q a w)(hn:ops.size=n+is.length:=by rfl)(hns:Region.noSelect ops=true:=by kernel_rfl)(ht:takesB ops (Array.replicate ops.size false) is=true:=by kernel_rfl)
  (hH:takesB (hoistAll is ops) (Array.replicate ops.size false) is=true:=by kernel_rfl)(hq:quietS P N ops is Z=true:=by kernel_rfl)(hl:(is.all λf=>(is.foldl (λL i=>L.setIfInBounds i true) (Array.replicate ops.size false)).getD f false)=true:=by kernel_rfl)
  (hQ:∀c a d v w,Q (.panic c) (Act.put a (some d) v) w->Q (.panic c) a w:=by exact λ_ _ _ _ _ h=>h):RA P ops Q a w:=ED is c.fr n hn hns ht hH hq hl hQ h
def As{id:Nat}{l:List Oper}(hmix:P.follows .mixedOrders=true)(c:Cx B N Z Γ Φ a w)(h:∀w',Cx B N Z Γ Φ a w'->wpAny P .any l.toArray Q l.toArray.size (Array.replicate l.toArray.size false) a w'):(Code.region id l.toArray true).wp P Q a w:=
 Et hmix λw' hc=>h w' (c.ext hc)
def Ar{l:List Oper}(c:Cx B N Z Γ Φ a w)(h:∀w',Cx B N Z Γ Φ a w'->wpAny P .any l.toArray Q l.toArray.size (Array.replicate l.toArray.size false) a w'):RA P l.toArray Q a w:=CR λw' hc=>h w' (c.ext hc)
def Gt{l:List Oper}{k g t:Nat}{want:Bool}{o og:Oper}(c:Cx B N Z Γ Φ a w)(h:wpFrom P (l.set k {o with guard:=none}).toArray Q k a w)(ho:l[k]? =some o:=by rfl)(hg:o.guard=some (g,want):=by rfl)(hog:l[g]? =some og:=by rfl)(ht:og.dst=some t:=by rfl)
  (htN:Nat.blt t N=true:=by rfl)(hv:opd Z (.tmp t)=some (.bool want):=by kernel_rfl):wpFrom P l.toArray Q k a w:=Ia c.fr ho hg hog ht htN hv h
def Gs{ops:Array Oper}{k g t d:Nat}{want:Bool}{o og:Oper}(c:Cx B N Z Γ Φ a w)(h:∀fr,Cx B N ((d,undef)::Z) Γ Φ fr w->wpFrom P ops Q (k+1) fr w)(ho:ops[k]? =some o:=by rfl)(hg:o.guard=some (g,want):=by rfl)(hog:ops[g]? =some og:=by rfl)
  (ht:og.dst=some t:=by rfl)(hd:o.dst=some d:=by rfl)(htN:Nat.blt t N=true:=by rfl)(hdN:Nat.blt d N=true:=by rfl)(hv:opd Z (.tmp t)=some (.bool (!want)):=by kernel_rfl):wpFrom P ops Q k a w:=
 Ez c.fr ho hg hog ht htN hv (by simp) hd hdN λfr hF=>h fr (c.to hF)
def pureC(P:Program)(N:Nat)(Z:List (Nat×Value)):Code->Option (List (Nat×Value))
 |.skip=>some Z
 |.region _ ops false=>seqV P N ops.toList Z
 |_=>none
def dstC:Code->List Nat
 |.region _ ops _=>ops.toList.filterMap (·.dst)
 |_=>[]
theorem OU{t:Nat}:∀{l:List Oper}{Z σ':List (Nat×Value)},seqV P N l Z=some σ'->t∉l.filterMap (·.dst)->σ'.lookup t=Z.lookup t
 |[],Z,σ',h,_=>by simp_all[seqV,Option.some.injEq]
 | o::l,Z,σ',h,ht=>by
  unfold seqV at h;split at h
  ·rename_i d v hg hd hv;split at h
   ·rw[List.filterMap_cons,hd]at ht;have h1:=OU h λhm=>ht (Zca _ hm);grind
   ·cases h
  ·cases h
theorem Vg{t:Nat}{v:Value}:∀{τ Z:List (Nat×Value)},(τ++Z).lookup t=some v->(t,v)∈τ\/Z.lookup t=some v
 |[],_,h=>.inr h
 | (k,u)::τ,Z,h=>by
  rw[Zdk,Zcc]at h;by_cases e:t=k
  ·simp_all
  ·have:(t==k)=false:=by simpa using e
   rw[this]at h;exact(Vg h).imp (Zca _) id
theorem LY{x:Code}{τ:List (Nat×Value)}{D:List Nat}(hF:FrS N Z a)(h:(pureC P N Z x).map (λs=>τ.map λp=>s.lookup p.1)=some (τ.map λp=>some p.2))(hD:((dstC x).all (memN D))=true):
  x.wp P (λe a' w'=>e= .normal/\w'=w/\FrS N (τ++Z.filter λp=>!memN D p.1) a') a w:=by
 have fin:∀(s:List (Nat×Value))(a':Act),FrS N s a'->(∀p∈τ,s.lookup p.1=some p.2)->(∀t,memN D t=false->s.lookup t=Z.lookup t)->FrS N (τ++Z.filter λp=>!memN D p.1) a':=λs a' hs h1 h2=>
  ⟨hs.defers,hs.size,λt v hv=>by
   rcases Vg hv with hv|hv
   ·exact hs.get t v (h1 _ hv)
   ·obtain⟨g1,g2⟩:=Vw (f:=λk=> !memN D k) hv
    exact hs.get t v (by simp_all)⟩
 cases x with
 |skip=>
  simp only[pureC,ZbF,Option.some.injEq]at h;exact wp_skip ⟨rfl,rfl,fin Z a hF (λp hp=>Zct.1 h p hp) λ_ _=>rfl⟩
 | region id ops draw=>
  cases draw with
  |true=>simp_all[pureC]
  | false=>
   simp only[pureC]at h;cases hq:seqV P N ops.toList Z with
   |none=>simp_all
   |some s=>
    rw[hq]at h;simp only[ZbF,Option.some.injEq]at h;refine Lt ?_;unfold wpFrom;rw[ZcT,<-Zcg ops.toList];refine NZ hF hq λa' hF'=>wpList_nil ⟨rfl,rfl,fin s a' hF' (λp hp=>Zct.1 h p hp) λt ht=>OU hq λhm=>?_⟩;grind[List.all_eq_true,dstC]
 |_=>simp_all[pureC]
def Mp{x y:Code}{o:Operand}(b:Bool)(τ1 τ2 τ:List (Nat×Value))(D:List Nat)(c:Cx B N Z Γ Φ a w)(h:∀fr,Cx B N (τ++Z.filter λp=>!memN D p.1) Γ Φ fr w->K fr w)(hb:opd Z o=some (.bool b):=by kernel_rfl)
  (h1:(pureC P N Z x).map (λs=>τ1.map λp=>s.lookup p.1)=some (τ1.map λp=>some p.2):=by kernel_rfl)(h2:(pureC P N Z y).map (λs=>τ2.map λp=>s.lookup p.1)=some (τ2.map λp=>some p.2):=by kernel_rfl)
  (hx:((dstC x).all (memN D))=true:=by kernel_rfl)(hy:((dstC y).all (memN D))=true:=by kernel_rfl)(e1:b=true->τ1=τ:=by intro hb;first|rfl|(simp only[hb];done)|(simp only[hb];rfl)|(simp[hb];done))
  (e2:b=false->τ2=τ:=by intro hb;first|rfl|(simp only[hb];done)|(simp only[hb];rfl)|(simp[hb];done)):(Code.cond o x y).wp P (Exit.then K Q) a w:=
 Cn (τ++Z.filter λp=>!memN D p.1) c.fr hb (λhb=>by rw[<-e1 hb];exact LY c.fr h1 hx) (λhb=>by rw[<-e2 hb];exact LY c.fr h2 hy) λa' hF=>TY (h a' (c.to hF))
def Ry{id:Nat}{ops:Array Oper}{draw:Bool}(hs:List (Nat×Nat))(hmix:P.follows .mixedOrders=true)(c:Cx B N Z Γ Φ a w)
  (h:∀fr w',Cx B N (outS ops Z (pdsM P (bxsOf Γ Φ) hs ops Z [] ops.size) ops.size) Γ Φ fr w'->K fr w')
  (hst:(stat draw (cond draw (masksN ops ops.size) []) ops [] N&&statG ops (pdsM P (bxsOf Γ Φ) hs ops Z [] ops.size) [])=true:=by kernel_rfl)
  (h1:(freeI [] ops.size).map (λj=>(pureB P (bxsOf Γ Φ) hs ops Z (pdsM P (bxsOf Γ Φ) hs ops Z [] ops.size) j).map (·.1))=(freeI [] ops.size).map λj=>((pdsM P (bxsOf Γ Φ) hs ops Z [] ops.size).getD j .any).val?:=by kernel_rfl)
  (h2:((freeI [] ops.size).all λj=>((pdsM P (bxsOf Γ Φ) hs ops Z [] ops.size).getD j .any).val?.isSome)=true:=by kernel_rfl)
  (h3:(freeI [] ops.size).map (λj=>(pureB P (bxsOf Γ Φ) hs ops Z (pdsM P (bxsOf Γ Φ) hs ops Z [] ops.size) j).map λr=>r.2.map (·.1))=(freeI [] ops.size).map λj=>(pureB P (bxsOf Γ Φ) hs ops Z (pdsM P (bxsOf Γ Φ) hs ops Z [] ops.size) j).map λr=>r.2.map (·.2):=by kernel_rfl):
  (Code.region id ops draw).wp P (Exit.then K Q) a w:=Rz [] hs hmix c trivial (λ_=>trivial) h hst h1 h2 h3
def Pd.el{U:Type}[Rep U](x:U):Pd:=.is λv w=>ElemP w (λ_=>True) v x
def elM{U:Type}[Rep U]{x:U}:(Pd.el x).Mono Non:=Mk
def elO{U:Type}[Rep U]{x:U}:(Pd.el x).MonoO:=Pd.monoO_is Mk
def atN{bx:Bxs}{hs:List (Nat×Nat)}{ops:Array Oper}{np:List (Nat×Pd)}{m:Nat}{p:Pd}(j:Nat)(hp:np.lookup j=some p:=by rfl)(hj:Nat.blt j m=true:=by rfl):(pdsM P bx hs ops Z np m).getD j .any=p:=Uo (ZbZ.mp hj) hp
def atM{bx:Bxs}{hs:List (Nat×Nat)}{ops:Array Oper}{np:List (Nat×Pd)}{m:Nat}{p:Pd}{ow:Nat->Nat}(j:Nat)(hp:np.lookup j=some p:=by rfl)(hj:Nat.blt j m=true:=by rfl):(instL ow (pdsM P bx hs ops Z np m)).getD j .any=p.inst ow:=by
 rw[Xm,Uo (ZbZ.mp hj) hp]
def ndN:List Nat->Bool
 |[]=>true
 |x::l=>!(memN l x)&&ndN l
theorem SQ:∀{l:List Nat},ndN l=true->l.Nodup
 |[],_=>Zer
 |x::l,h=>by
  unfold ndN at h;rw[Zbt,Zc6,PT]at h;exact ZdZ.2 ⟨λhm=>by simp_all,SQ h.2⟩
theorem Cx.newt{σ0:List (Nat×Value)}{a0:Act}{w0:World}{ow:Nat->Nat}(c0:Cx B N σ0 Γ Φ a0 w0)(hc:Chg Non w0 w)(c:Cx B N Z Γ Φ a w)(l:List (Nat×Nat×Value×HP))
  (h:AllP (λp=>a.eval (.tmp p.2.1)=p.2.2.1/\p.2.2.2.ok w (λk=>w0.heap.size<=k/\k<w.heap.size/\ow k=p.1)) l)(hnd:ndN (l.map (·.1))=true:=by rfl):Cx B N (l.map (λp=>(p.2.1,p.2.2.1))++Z) (Γ++l.map (·.2.2.2)) Φ a w:=by
 have hn:=SQ hnd;clear hnd;obtain⟨_,S,F,hM,hs,hf⟩:=c0
 have hN:=sepO (w0:=w0) (ow:=ow) (l.map λp=>(p.1,p.2.2.2)) (by grind) (by
  induction l with
  |nil=>trivial
  |cons p l ih=>exact⟨h.1.2,ih h.2 (by simp_all)⟩) rfl
 obtain⟨S',hp,hs'⟩:=hs.got hM (Ae hc) hN;refine⟨⟨c.fr.defers,c.fr.size,λt v hv=>?_⟩,S',F,hM.stp hp,?_,hf.chg hp.chg λk hk hS=>hM.dj k hS hk⟩
 ·rcases Vg hv with hv|hv
  ·obtain⟨p,hp,he⟩:=ZcB.1 hv;obtain⟨rfl,rfl⟩:=he;exact(h.mem hp).1
  ·exact c.fr.get t v hv
 simp_all[ZL,Zc2,Function.comp_def]
end
section
variable{P:Program}{B:Bs}{N:Nat}{Z:List (Nat×Value)}{Γ:List HP}{Φ Φ1:List RF}{a:Act}{w:World}{Q:Exit->Act->World->Prop}
  {draw:Bool}{ms:List Nat}{ops:Array Oper}{pds:List Pd}{j d:Nat}{dst:Option Tmp}{g:Option (Nat×Bool)}{t ty yt:TypeId}{x y:Operand}{pos:String}{af:Array Edge}{ow:Nat->Nat}
theorem gcT{g':Nat}{b:Bool}(hg:gc ops pds ops.size j)(hgd:guardOf ops j=some (g',true):=by rfl)(hn:∃n,ops.size=n+1:=by exact⟨_,rfl⟩)(hp:(pds.getD g' .any).val? =some (.bool b):=by kernel_rfl):b=true:=by
 obtain⟨n,hn⟩:=hn;unfold gc at hg;cases hq:pds.getD g' .any with
 |eq v=>
  simp_all[Pd.val?,Option.some.injEq,Pd.boolIs]
 |_=>rw[hq]at hp;cases hp
theorem gcF{g':Nat}{b:Bool}(hg:gc ops pds ops.size j)(hgd:guardOf ops j=some (g',false):=by rfl)(hn:∃n,ops.size=n+1:=by exact⟨_,rfl⟩)(hp:(pds.getD g' .any).val? =some (.bool b):=by kernel_rfl):b=false:=by
 obtain⟨n,hn⟩:=hn;unfold gc at hg;cases hq:pds.getD g' .any with
 |eq v=>
  simp_all[Pd.val?,Option.some.injEq,Pd.boolIs]
 |_=>rw[hq]at hp;cases hp
def Nix{s:Str}{n r:Int}(c:Cx B N Z Γ Φ a w)(hz:gc ops pds ops.size j->sidx? s n=some r)(ho:ops[j]? =some ⟨dst,.index t x y,ty,pos,af,g⟩:=by rfl)(ht:P.underlying t=some .string:=by kernel_rfl)
  (hx:envP ops Z pds j x=some s.val:=by kernel_rfl)(hy:numOf (envP ops Z pds j y)=some n:=by kernel_rfl)(hG:Good ops pds [])(hpd:pds.getD j .any= .eq (.int .u8 r)):NPB P draw ms ops pds a w Q j:=by
 obtain⟨kd,hy⟩:=Yk hy;exact La hG c.fr ht ho hx hy hz hpd
def Nshl{m n r:Int}(c:Cx B N Z Γ Φ a w)(hz:gc ops pds ops.size j->shl? m n=some r)(ho:ops[j]? =some ⟨dst,.binOp .shl t x y yt,ty,pos,af,g⟩:=by rfl)
  (hx:envP ops Z pds j x=some (.int .i64 m):=by kernel_rfl)(hy:numOf (envP ops Z pds j y)=some n:=by kernel_rfl)(hG:Good ops pds [])(hpd:pds.getD j .any= .eq (.int .i64 r)):NPB P draw ms ops pds a w Q j:=by
 obtain⟨kd,hy⟩:=Yk hy;exact Zaq hG c.fr ho hx hy hz hpd
def Nshr{m n r:Int}(c:Cx B N Z Γ Φ a w)(hz:gc ops pds ops.size j->shr? m n=some r)(ho:ops[j]? =some ⟨dst,.binOp .shr t x y yt,ty,pos,af,g⟩:=by rfl)
  (hx:envP ops Z pds j x=some (.int .i64 m):=by kernel_rfl)(hy:numOf (envP ops Z pds j y)=some n:=by kernel_rfl)(hG:Good ops pds [])(hpd:pds.getD j .any= .eq (.int .i64 r)):NPB P draw ms ops pds a w Q j:=by
 obtain⟨kd,hy⟩:=Yk hy;exact ZaG hG c.fr ho hx hy hz hpd
def Nid{U:Type}[Rep U]{e:TypeId}{v:Value}{l:List U}{n:Int}{q:U}(c:Cx B N Z Γ Φ a w)(hl:Ava Γ Φ w (RO v l))(hz:gc ops pds ops.size j->get? l n=some q)(ho:ops[j]? =some ⟨dst,.indexAddr t x y,ty,pos,af,g⟩:=by rfl)(ht:P.underlying t=some (.slice e):=by rfl)(he:Ty P e U:=by constructor<;>kernel_rfl)(hx:envP ops Z pds j x=some v:=by kernel_rfl)(hy:numOf (envP ops Z pds j y)=some n:=by kernel_rfl)(hG:Good ops pds [])(hpd:pds.getD j .any= .is λv w=>ElemP w (λ_=>True) v q):NPB P draw ms ops pds a w Q j:=by
 obtain⟨F,hl⟩:=c.use hl;obtain⟨kd,hy⟩:=Yk hy;exact CW hG c.fr he ht ho hx (RV.any hl) hy hpd λhg=>⟨get?_nn (hz hg),get?_at (hz hg)⟩
def Nld{U:Type}[Flat U]{s:Nat}{q:U}{u:Value}(c:Cx B N Z Γ Φ a w)(i:Nat)(hpi:pds.getD i .any= .is λv w=>ElemP w (λ_=>True) v q)(ho:ops[j]? =some ⟨dst,.load t (.tmp s),ty,pos,af,g⟩:=by rfl)
  (hj:Nat.blt j ops.size=true:=by rfl)(hl:lastW ops s j=some i:=by rfl)(hok:okG ops ops.size j i=true:=by rfl)(hu:Rep.val U (Flat.enc q)=u:=by rfl)(ht:Ty P t U:=by constructor<;>kernel_rfl)(hG:Good ops pds [])(hpd:pds.getD j .any= .eq u):NPB P draw ms ops pds a w Q j:=
 Cz hG c.fr ht ho hj hl hok hpi hpd hu
def Ncl{args:List Value}{f:FuncId}{xs:Array Operand}{ts:Array TypeId}{vs:List Value}{u:Value}(c:Cx B N Z Γ Φ a w)(hcon:gc ops pds ops.size j->Con P f args [] Φ1 λ(_:Unit)=>(vs,[],[]))(ro:AvaL Γ Φ w Φ1)
  (hf:∀(args:Array Value)(w:World),(callFunc f args).run P w= .ok (.enter f args) w)(hv:Go.GL.tup vs=u:=by rfl)(ho:ops[j]? =some ⟨dst,.call ⟨.value (.func f),xs,ts⟩,ty,pos,af,g⟩:=by rfl)
  (hargs:xs.toList.map (envP ops Z pds j)=args.map some:=by kernel_rfl)(hG:Good ops pds [])(hpd:pds.getD j .any= .eq u):NPB P draw ms ops pds a w Q j:=
 Ai args hG c.fr hf ho hargs λw' hC hg=>by
  have hro:AllF Φ1 w (λk=>k<w.heap.size):=by
   obtain⟨_,S0,F0,hM0,hs0,hF0⟩:=c;exact(AvaL.all ro hs0 hF0).sub λk hk _=>hk
  refine(hcon hg w' Non (λk=>k<w.heap.size) (Sep.nil _ _) (hro.chg hC λ_ _ h=>h.elim) (λ_ h=>h.elim) (λk hk=>ZbA hk hC.size) (λ_ h=>h.elim)).mono ?_;rintro e w'' ⟨i,S',F',rfl,hM',_,_⟩;exact⟨_,rfl,hM'.chg,by rw[hpd];exact hv⟩
theorem Ncn{κ:Type}{R:κ->Res}{V:κ->Value}{H:κ->HP}{args:List Value}{f:FuncId}{xs:Array Operand}{ts:Array TypeId}(c:Cx B N Z Γ Φ a w)(hcon:gc ops pds ops.size j->Con P f args [] Φ1 R)(ro:AvaL Γ Φ w Φ1)
  (hf:∀(args:Array Value)(w:World),(callFunc f args).run P w= .ok (.enter f args) w)(hV:∀i,Go.GL.tup (R i).1=V i:=by exact λ_=>rfl)(hH:∀i,HP.sep (R i).2.1=H i:=by exact λ_=>rfl)
  (ho:ops[j]? =some ⟨dst,.call ⟨.value (.func f),xs,ts⟩,ty,pos,af,g⟩:=by rfl)(hj:Nat.blt j ops.size=true:=by rfl)(hargs:xs.toList.map (argSpec ops Z pds j)=(args.map Sum.inl).map some:=by kernel_rfl)(hG:Good ops pds [])(hpd:pds.getD j .any= .is λv w'=>∃i,v=V i/\(H i).ok w' (λk=>w.heap.size<=k/\k<w'.heap.size/\ow k=j)):NPO P ms ops pds a w Q ow j:=
 DZ (args.map .inl) hG c.fr hf ho hj hargs hpd λw' vs hC hg hsp=>by
  have hvs:vs=args:=by
   have key:∀(l vs:List Value),SpecP pds w' (l.map .inl) vs->vs=l:=by
    intro l
    induction l with
    |nil=>intro vs h;exact h
    |cons u l ih=>
     intro vs h;obtain⟨rest,rfl,h⟩:=h;grind
   grind
  subst hvs;have hro:AllF Φ1 w (λk=>k<w.heap.size):=by
   obtain⟨_,S0,F0,hM0,hs0,hF0⟩:=c;exact(AvaL.all ro hs0 hF0).sub λk hk _=>hk
  refine(hcon hg w' Non (λk=>k<w.heap.size) (Sep.nil _ _) (hro.chg hC λ_ _ h=>h.elim) (λ_ h=>h.elim) (λk hk=>ZbA hk hC.size) (λ_ h=>h.elim)).mono ?_;rintro e w'' ⟨i,S',F',rfl,hM',hs',_⟩;exact⟨_,rfl,hM'.chg,i,hV i,by rw[<-hH];exact hs'.mono λk _ hk=>(hM'.sub k hk).elim (λh=>h.elim) id⟩
end
class RawOf(ρ U:Type)[Flat ρ][Rep U]:Prop where
 sz:Rep.sz ρ=Rep.sz U
 agg:Rep.agg ρ=Rep.agg U
 ex:∀{w:World}{F:Nat->Prop}{cs:List Value}{x:U},Rep.ok w F cs x->∃q:ρ,cs=Flat.enc q
def FacL(w:World)(F:Nat->Prop):List RF->Prop
 |[]=>True
 |R::l=>R.ok w F/\FacL w F l
theorem AllF.of{w:World}{F:Nat->Prop}:∀(Ψ:List RF),FacL w F Ψ->AllF Ψ w F
 |[],_=>AllF.nil
 |R::l,h=>λR' hR=>by
  rcases ZbN.1 hR with rfl|hR
  ·exact h.1
  ·exact AllF.of l h.2 R' hR
deriving instance Inhabited for Hd
section
variable{B:Bs}{N:Nat}{Z:List (Nat×Value)}{Γ:List HP}{Φ:List RF}{a:Act}{w:World}
def FW{q:D.Value}{w:World}{F:Nat->Prop}{cs:List Value}(h:Rep.ok w F cs q):cs[0]? =some ((Str.val q.Name)):=by rw[Flat.iff.1 h];rfl
def FV{q:D.Value}{w:World}{F:Nat->Prop}{cs:List Value}(h:Rep.ok w F cs q):cs[1]? =some (.int .i64 q.W):=by rw[Flat.iff.1 h];rfl
def Fa{q:D.Value}{w:World}{F:Nat->Prop}{cs:List Value}(h:Rep.ok w F cs q):cs[2]? =some (.int .i64 q.N):=by rw[Flat.iff.1 h];rfl
def Ava.mk_Term(x:D.Term){v4:Value}(h4:Ava Γ Φ w (RO v4 x.Kids)):Ava Γ Φ w (RO (.agg #[.int .i64 x.Op,.int .i64 x.W,.int .i64 x.N,(Str.val x.Name),v4]) x):=λS F hs hf=>RV.mk_Term x (h4 S F hs hf)
def Cx.o_Term{v:Value}{x:D.Term}(i:Nat)(c:Cx B N Z Γ Φ a w)(hi:Φ[i]? =some (RO v x):=by rfl):∃(a4:Option Addr)(c4:Nat),v= .agg #[.int .i64 x.Op,.int .i64 x.W,.int .i64 x.N,(Str.val x.Name),.slice a4 x.Kids.length c4]/\Cx B N Z Γ (Φ++[RO (.slice a4 x.Kids.length c4) x.Kids]) a w:=by
 obtain⟨hF,S,F,hM,hs,hf⟩:=c;obtain⟨v4,rfl,h4⟩:=RV.Term (hf.get hi);obtain⟨a4,c4,rfl,_⟩:=RV.slice h4;exact⟨a4,c4,rfl,hF,S,F,hM,hs,hf.join (AllF.of [_] ⟨h4,trivial⟩)⟩
def Dv{q:D.Term}{w:World}{F:Nat->Prop}{cs:List Value}(h:Rep.ok w F cs q):cs[1]? =some (.int .i64 q.W):=by
 obtain⟨y0,y1,y2,y3,y4⟩:=q;have h:okTerm w F cs ⟨y0,y1,y2,y3,y4⟩:=h;grind[okTerm]
structure Rw.Term where
 Op:Int
 W:Int
 N:Int
 Name:Str
 Kids:Hd
deriving Inhabited
instance:Rep Rw.Term where
 sz:=5
 agg:=true
 ok:=λ_ _ cs x=>cs=[.int .i64 x.Op,.int .i64 x.W,.int .i64 x.N,(Str.val x.Name),x.Kids.v]
 len:=by simp
 one:=by rintro w F cs x rfl u hu;simp at hu;rcases hu with rfl|rfl|rfl|rfl|rfl<;>rfl
 pos:=by decide
 sgl:=λh=>by cases h
 keep:=λh _=>h
instance:Flat Rw.Term where
 enc:=λx=>[.int .i64 x.Op,.int .i64 x.W,.int .i64 x.N,(Str.val x.Name),x.Kids.v]
 iff:=Iff.rfl
instance:RawOf Rw.Term D.Term where
 sz:=rfl
 agg:=rfl
 ex:=by
  rintro w F cs ⟨y0,y1,y2,y3,kids⟩ h;obtain⟨a,cp,rfl,_⟩:=h;exact⟨⟨y0,y1,y2,y3,⟨a,kids.length,cp⟩⟩,rfl⟩
end
section
variable{P:Program}{B:Bs}{N:Nat}{Z:List (Nat×Value)}{Γ:List HP}{Φ:List RF}{a:Act}{w:World}{Q:Exit->Act->World->Prop}
  {ops:Array Oper}{k d d2 d3:Nat}{t t' s' ty ty' ty2 yt:TypeId}{pos pos' pos2:String}{af af' af2:Array Edge}{x y y' z:Operand}{kd kk:IntKind}
def Cx.fad{Rf:RF}(c:Cx B N Z Γ Φ a w)(h:∀F,AllF Φ w F->Rf.ok w F):Cx B N Z Γ (Φ++[Rf]) a w:=by
 obtain⟨hF,S,F,h1,h2,h3⟩:=c;exact⟨hF,S,F,h1,h2,h3.add (h F h3)⟩
def Ava.ro{Rf:RF}{F:Nat->Prop}(h:Ava [] Φ w Rf)(hf:AllF Φ w F):Rf.ok w F:=Rf.sub (h Non F (Sep.nil w Non) hf) λ_ _ h=>h.elim id λh=>h.elim
end
def Pd.fl(u:Value):Pd:=.is λv w=>∃ad,v= .pointer (some ad)/\Cells w ad [u]
def flM{u:Value}:(Pd.fl u).Mono Non:=λv w w'⟨ad,h1,h2⟩hc=>⟨ad,h1,h2.keep λ_=>hc.block _ (h2.lt (by simp)) id⟩
def flO{u:Value}:(Pd.fl u).MonoO:=Pd.monoO_is flM
def Pd.rd{U:Type}[Rep U](x:U):Pd:=.is λv w=>RV w (λ_=>True) v x
def rdM{U:Type}[Rep U]{x:U}:(Pd.rd x).Mono Non:=Ha
def rdO{U:Type}[Rep U]{x:U}:(Pd.rd x).MonoO:=Pd.monoO_is Ha
inductive ArgS where
 |v (u:Value)
 |r (i:Nat) (R:Value->RF)
def ArgS.sum:ArgS->Value⊕Nat
 |.v u=>.inl u
 |.r i _=>.inr i
section
variable{P:Program}{B:Bs}{N:Nat}{Z:List (Nat×Value)}{Γ:List HP}{Φ Φ1 Ψ:List RF}{a:Act}{w:World}{Q:Exit->Act->World->Prop}
  {draw:Bool}{ms:List Nat}{ops:Array Oper}{pds:List Pd}{j d:Nat}{dst:Option Tmp}{g:Option (Nat×Bool)}{t ty yt:TypeId}{x y:Operand}{pos:String}{af:Array Edge}{ow:Nat->Nat}
theorem Nfa{U:Type}[Rep U]{q:U}{u:Value}{s fl off:Nat}(c:Cx B N Z Γ Φ a w)(i:Nat)(hpi:pds.getD i .any= .is λv w=>ElemP w (λ_=>True) v q)(hu:∀{w:World}{F:Nat->Prop}{cs:List Value},Rep.ok w F cs q->cs[off]? =some u)(ho:ops[j]? =some ⟨dst,.fieldAddr t (.tmp s) fl,ty,pos,af,g⟩:=by rfl)(hj:Nat.blt j ops.size=true:=by rfl)(hl:lastW ops s j=some i:=by rfl)(hok:okG ops ops.size j i=true:=by rfl)
  (hoff:fieldOff P t fl=some off:=by kernel_rfl)(hG:Good ops pds [])(hpd:pds.getD j .any= .is λv w=>∃ad,v= .pointer (some ad)/\Cells w ad [u]):NPB P draw ms ops pds a w Q j:=
 TI _ ho hG c.fr λa' w' _ hg _ hk=>by
  have h:=Qd hG hj hl hok hg (hk s (by simp[Op.operands]));rw[hpi]at h;obtain⟨ad,cs,hv,_,h1,h2⟩:=h
  refine Zi (v:=.pointer (some (ad.add off))) (w':=w') (Sa (P:=P) (ρ:=λy=>match y with|.tmp s'=>if s'=s then some (.pointer (some ad))else none|_=>none) (ρ':=a'.eval) (λy z hy=>by
   grind) (by simp[pe,hoff]) w') ?_
  rw[hpd];refine⟨⟨_,rfl,λi' q' hq=>?_⟩,Chg.refl _ _⟩;cases i' with
  |zero=>
   simp only[ZcN,Option.some.injEq]at hq;subst hq;exact h2 off u (hu h1)
  |succ j=>simp at hq
def Nlf{u:Value}{s:Nat}(c:Cx B N Z Γ Φ a w)(i:Nat)(hpi:pds.getD i .any= .is λv w=>∃ad,v= .pointer (some ad)/\Cells w ad [u])(ho:ops[j]? =some ⟨dst,.load t (.tmp s),ty,pos,af,g⟩:=by rfl)(hj:Nat.blt j ops.size=true:=by rfl)
  (hl:lastW ops s j=some i:=by rfl)(hok:okG ops ops.size j i=true:=by rfl)(ht:Ty P t Int:=by constructor<;>kernel_rfl)(hG:Good ops pds [])(hpd:pds.getD j .any= .eq u):NPB P draw ms ops pds a w Q j:=
 TI _ ho hG c.fr λa' w' _ hg _ hk=>by
  have h:=Qd hG hj hl hok hg (hk s (by simp[Op.operands]));rw[hpi]at h;obtain⟨ad,hv,h2⟩:=h;refine Zi (v:=u) (w':=w') ?_ (by rw[hpd];exact⟨rfl,Chg.refl _ _⟩);have:=Xa ht (cs:=[u]) rfl h2;have hv':Rep.val Int [u]=u:=rfl;simp_all[execOp,Instr.loadAt,Instr.sureAddr]
end
def mapSI(P:Program)(k e:TypeId)(hk:P.underlying k=some .string)(he:P.underlying e=some (.int .i64))(hzero:(P.info? e).map (·.zero)=some (some (.int .i64 0))):MapT P k e Str Int where
 fit:=fitS
 lit x:=.string x.bytes
 dv y:=.lit (.int .i64 y)
 zero:=0
 efit:=fitZ
 zfit:=rfl
 keyed:=Maps.string_keyed hk
 key x h:=by
  have h:x.bytes.length<=9223372036854775807:=of_decide_eq_true h;have h2:(Rep.val Str (Flat.enc x))= .string ⟨x.bytes.toArray⟩:=rfl;unfold keyOf;rw[hk,h2];simp only[mapKey,hk];have h3:(ByteArray.mk x.bytes.toArray).size<=maxLen:=by show x.bytes.toArray.size<=_;simp_all[maxLen]
  simp[h3]
 inj x y _ _ h:=by
  cases x;simp_all
 elem y h:=plainElem_int he (by grind[fitZ])
 back v y ps h:=by
  obtain⟨c,rfl,hc,_⟩:=plainElem_int_inv he h;simp only[Prod.mk.injEq,DataW.lit.injEq,Lit.int.injEq]at hc;rw[hc.1.2];rfl
 hz w:=by
  show(zeroValue e).run P w= .ok (.int .i64 0) w;cases hi:P.info? e with
  |none=>simp_all
  |some i=>
   simp_all[ZbF,Option.some.injEq,zeroValue,typeInfo]
section
variable{P:Program}{K V:TypeId}{κ β:Type}[Flat κ][Flat β]
def OM(T:MapT P K V κ β)(v:Value)(m:Option (List (κ×β))):HP where
 ok w A:=match m with
  |none=>v= .map none
  |some l=>∃b,v= .map (some b)/\OwnM T w b l/\A b
 mono:=λ{w A A'}h hA=>by
  grind[OwnM.lt]
 keep:=λ{w w' A T'}h hc hT=>by
  cases m with
  |none=>exact h
  |some l=>obtain⟨b,h1,h2,h3⟩:=h;exact⟨b,h1,h2.chg T hc (hT b h3),h3⟩
def MO(T:MapT P K V κ β)(v:Value)(m:Option (List (κ×β))):RF where
 ok w F:=(OM T v m).ok w F
 sub:=λh hs=>(OM T v m).mono h hs
 chg:=λh hc ht=>(OM T v m).keep h hc ht
variable{B:Bs}{N:Nat}{Z:List (Nat×Value)}{Γ:List HP}{Φ:List RF}{a:Act}{w:World}{Q:Exit->Act->World->Prop}{T:MapT P K V κ β}
  {ops:Array Oper}{k d b:Nat}{t ty yt:TypeId}{pos:String}{af:Array Edge}{x y z:Operand}{v:Value}{m:Option (List (κ×β))}{l:List (κ×β)}
def Cx.om[DecidableEq κ](i:Nat)(c:Cx B N Z Γ Φ a w)(hi:Γ[i]? =some (MP T b l):=by rfl):Cx B N Z (Γ.set i (OM T (.map (some b)) (some l))) Φ a w:=c.swap (H:=MP T b l) (H':=OM T (.map (some b)) (some l)) i (λA h=>(⟨b,rfl,h.1,h.2⟩:(OM T (.map (some b)) (some l)).ok w A)) hi
def Cx.nilm(T:MapT P K V κ β)(c:Cx B N Z Γ Φ a w):Cx B N Z (Γ++[OM T (.map none) none]) Φ a w:=c.gam λS h=>ZL (Γ2:=[OM T (.map none) none]) (Sep.emp _ h rfl)
theorem Cx.som[DecidableEq κ](i:Nat)(c:Cx B N Z Γ Φ a w)(hm:m.isNone=false)(hi:Γ[i]? =some (OM T v m):=by rfl):∃b,v= .map (some b)/\Cx B N Z (Γ.set i (MP T b (m.getD []))) Φ a w:=by
 cases m with
 |none=>cases hm
 | some l=>
  have:∃b,v= .map (some b):=by
   obtain⟨_,S,F,_,hs,_⟩:=c;obtain⟨A,h,_⟩:=hs.get i hi;obtain⟨b,h,_⟩:=h;simp_all
  obtain⟨b,rfl⟩:=this;exact⟨b,rfl,c.swap (H:=OM T (.map (some b)) (some l)) (H':=MP T b l) i (λA h=>by obtain⟨b',h1,h2,h3⟩:=h;cases h1;exact⟨h2,h3⟩) hi⟩
def Cx.smx[DecidableEq κ](i:Nat)(c:Cx B N Z Γ Φ a w)(hm:m=some l)(hi:Γ[i]? =some (OM T v m):=by rfl):∃b,v= .map (some b)/\Cx B N Z (Γ.set i (MP T b l)) Φ a w:=by
 subst hm;exact c.som i rfl hi
theorem Cx.nom(i:Nat)(c:Cx B N Z Γ Φ a w)(hm:m.isNone=true)(hi:Γ[i]? =some (OM T v m):=by rfl):v= .map none:=by
 cases m with
 |some l=>cases hm
 |none=>
  obtain⟨_,S,F,_,hs,_⟩:=c;obtain⟨A,h,_⟩:=hs.get i hi;exact h
def Ava.mp[DecidableEq κ](i:Nat)(h:Γ[i]? =some (MP T b l):=by rfl):Ava Γ Φ w (MO T (.map (some b)) (some l)):=λS F hs _=>by
 obtain⟨A,h1,h2⟩:=hs.get i h;exact⟨b,rfl,h1.1,.inr (h2 b h1.2)⟩
def Ava.om(i:Nat)(h:Γ[i]? =some (OM T v m):=by rfl):Ava Γ Φ w (MO T v m):=λS F hs _=>by
 obtain⟨A,h1,h2⟩:=hs.get i h;exact(OM T v m).mono h1 λk _ hk=>.inr (h2 k hk)
def Ej{t:TypeId}(ht:P.underlying t=some (.map K V))(o:Option Nat)(w:World):(binOp .eql t (.map o) (.map none)).run P w= .ok (.bool o.isNone) w:=by
 unfold binOp Op.equal Op.maxDepth Op.equalIn;cases o<;>simp[run_underlying ht]
theorem Enm(i:Nat)(c:Cx B N Z Γ Φ a w)(h:∀fr,Cx B N ((d,.bool m.isNone)::Z) Γ Φ fr w->wpFrom P ops Q (k+1) fr w)(hi:Γ[i]? =some (OM T v m):=by rfl)(ho:ops[k]? =some ⟨some d,.binOp .eql t x y yt,ty,pos,af,none⟩:=by rfl)(hd:Nat.blt d N=true:=by rfl)
  (ht:P.underlying t=some (.map K V):=by kernel_rfl)(hx:opd Z x=some v:=by kernel_rfl)(hy:opd Z y=some (.map none):=by kernel_rfl):wpFrom P ops Q k a w:=by
 obtain⟨S,F,hM,hs,hf⟩:=c.me;obtain⟨A,hA,_⟩:=hs.get i hi;have:∃o:Option Nat,v= .map o/\o.isNone=m.isNone:=by
  cases m with
  |none=>exact⟨none,hA,rfl⟩
  |some l=>obtain⟨b,h1,_⟩:=hA;simp_all
 obtain⟨o,rfl,ho'⟩:=this;exact Pm ho hd c.fr hx hy (by rfl) (Ej ht o w) λfr hF=>h fr (c.to (by simp_all))
def Nmg[DecidableEq κ]{ops:Array Oper}{pds:List Pd}{draw:Bool}{ms:List Nat}{j:Nat}{dst:Option Tmp}{g:Option (Nat×Bool)}{l:List (κ×β)}{b:Nat}{q:κ}{r:β}{u:Value}{fit:κ->Bool}{zz:β}{ty t:TypeId}{pos:String}{af:Array Edge}{x y:Operand}(i:Nat)(c:Cx B N Z Γ Φ a w)(hr:gc ops pds ops.size j->mget? fit zz l q=some r)(hi:Γ[i]? =some (MP T b l):=by rfl)(hfit:T.fit=fit:=by rfl)(hzz:T.zero=zz:=by rfl)(hu:Rep.val β (Flat.enc r)=u:=by rfl)
  (ho:ops[j]? =some ⟨dst,.lookup t x y false,ty,pos,af,g⟩:=by rfl)(ht:P.underlying t=some (.map K V):=by kernel_rfl)(hx:envP ops Z pds j x=some (.map (some b)):=by kernel_rfl)(hy:envP ops Z pds j y=some (Rep.val κ (Flat.enc q)):=by kernel_rfl)(hG:Good ops pds [])(hpd:pds.getD j .any= .eq u):NPB P draw ms ops pds a w Q j:=by
 obtain⟨S,F,hM,hs,hf⟩:=c.me;subst hfit;subst hzz;exact Er T i hs hi ht hG c.fr ho hx hy rfl (λhg=>mget?_fit (hr hg)) (λhg=>(congrArg (λy=>Rep.val β (Flat.enc y)) (mget?_val (hr hg))).trans hu) hpd
def Nmg2[DecidableEq κ]{ops:Array Oper}{pds:List Pd}{draw:Bool}{ms:List Nat}{j:Nat}{dst:Option Tmp}{g:Option (Nat×Bool)}{l:List (κ×β)}{b:Nat}{q:κ}{r:β×Bool}{u:Value}{fit:κ->Bool}{zz:β}{ty t:TypeId}{pos:String}{af:Array Edge}{x y:Operand}(i:Nat)(c:Cx B N Z Γ Φ a w)(hr:gc ops pds ops.size j->mget2? fit zz l q=some r)(hi:Γ[i]? =some (MP T b l):=by rfl)(hfit:T.fit=fit:=by rfl)(hzz:T.zero=zz:=by rfl)(hu: .tuple #[Rep.val β (Flat.enc r.1),.bool r.2]=u:=by rfl)
  (ho:ops[j]? =some ⟨dst,.lookup t x y true,ty,pos,af,g⟩:=by rfl)(ht:P.underlying t=some (.map K V):=by kernel_rfl)(hx:envP ops Z pds j x=some (.map (some b)):=by kernel_rfl)(hy:envP ops Z pds j y=some (Rep.val κ (Flat.enc q)):=by kernel_rfl)(hG:Good ops pds [])(hpd:pds.getD j .any= .eq u):NPB P draw ms ops pds a w Q j:=by
 obtain⟨S,F,hM,hs,hf⟩:=c.me;subst hfit;subst hzz;exact Ib T i hs hi ht hG c.fr ho hx hy rfl (λhg=>mget2?_fit (hr hg)) (λhg=>mget2?_val (hr hg)) hu hpd
end
def Nlt{P:Program}{B:Bs}{N:Nat}{Z:List (Nat×Value)}{Γ:List HP}{Φ:List RF}{a:Act}{w:World}{Q:Exit->Act->World->Prop}{ms:List Nat}{ops:Array Oper}{pds:List Pd}{j:Nat}{dst:Option Tmp}{g:Option (Nat×Bool)}{t ty:TypeId}{pos:String}{af:Array Edge}{ow:Nat->Nat}
  {U:Type}[Flat U]{E:TypeId}{n:Nat}{parts:Array (Nat×Operand)}(c:Cx B N Z Γ Φ a w)(l:List U)(ho:ops[j]? =some ⟨dst,.buildSlice t n parts,ty,pos,af,g⟩:=by rfl)(hln:l.length=n:=by rfl)(hmax:Nat.ble l.length room=true:=by rfl)
  (hv:parts.toList.map (λp=>envP ops Z pds j p.2)=(l.map λx=>Rep.val U (Flat.enc x)).map some:=by kernel_rfl)
  (hrun:∀w,(Instr.buildSlice t n ((parts.toList.map (·.1)).zip (l.map λx=>Rep.val U (Flat.enc x))).toArray).run P w= .ok (.slice (some ⟨w.heap.size,0,none⟩) n n) (w.alloc (.cells (l.map Flat.enc).flatten.toArray E)):=by intro _;kernel_rfl)(hG:Good ops pds [])(hpd:pds.getD j .any= .is λv w'=>∃i:Option Addr×Nat,v= .slice i.1 (List.length l) i.2/\(SL E (.slice i.1 (List.length l) i.2) l).ok w' (λk=>w.heap.size<=k/\k<w'.heap.size/\ow k=j)):NPO P ms ops pds a w Q ow j:=
 Zav (l.map Flat.enc).flatten (l.map Flat.enc) l hG c.fr ho _ hv hrun (λ_=>Ta _) rfl hln hmax hpd
section
variable{ρ U:Type}[Flat ρ][Rep U][RawOf ρ U]{w:World}{F:Nat->Prop}{v:Value}
omit[RawOf ρ U]in
theorem BU{cs cs':List Value}(ha:Rep.agg ρ=Rep.agg U)(hs:Rep.sz ρ=Rep.sz U)(hl:cs.length=Rep.sz ρ)(hl':cs'.length=Rep.sz U)(h:Rep.val ρ cs=Rep.val U cs'):cs=cs':=by
 unfold Rep.val at h;rw[<-ha]at h;cases hb:Rep.agg ρ with
 |true=>
  rw[hb]at h;simp only[Zb5,Value.agg.injEq]at h;simpa using congrArg Array.toList h
 | false=>
  rw[hb]at h;have h1:=Rep.sgl hb;simp only[Zbp,Zbx]at h;cases cs with
  |nil=>simp[h1]at hl
  | cons u us=>
   cases cs' with
   |nil=>rw[<-hs,h1]at hl';simp at hl'
   |cons u' us'=>
    rw[h1]at hl;rw[<-hs,h1]at hl';simp only[Zb6,Nat.add_eq_right,ZdI]at hl hl';subst hl;subst hl';simpa using h
def Jt{q:ρ}{x:U}(h:RV w F (Rep.val ρ (Flat.enc q)) x):Rep.ok w F (Flat.enc q) x:=by
 obtain⟨cs,h1,h2⟩:=h;have:=BU (ρ:=ρ) (U:=U) (RawOf.agg) (RawOf.sz) (Rep.len (w:=w) (F:=F) (Flat.iff.2 rfl:Rep.ok w F (Flat.enc q) q)) (Rep.len h1) h2;simp_all
theorem NE{ad:Addr}:∀{xs:List U}{i:Nat},elems w F ad i xs->∃rs:List ρ,elems w F ad i rs/\Css w F (rs.map Flat.enc) xs
 |[],i,_=>⟨[],trivial,rfl,λi cs x h=>by simp at h⟩
 |x::xs,i,h=>by
  obtain⟨⟨cs,h1,h2⟩,h3⟩:=h;obtain⟨q,rfl⟩:=RawOf.ex (ρ:=ρ) h1;obtain⟨rs,g1,g2⟩:=NE h3;refine⟨q::rs,⟨⟨Flat.enc q,Flat.iff.2 rfl,by grind[RawOf.sz]⟩,g1⟩,by simp[g2.1],λj cs y hj hy=>?_⟩;cases j with
  |zero=>simp_all
  |succ j=>exact g2.2 j cs y (by simp_all) (by simp_all)
def DW{xs:List U}(h:RV w F v xs):∃rs:List ρ,RV w F v rs/\Css w F (rs.map Flat.enc) xs:=by
 obtain⟨a,cp,rfl,h1,h2,h3⟩:=RV.slice h;by_cases hn:xs=[]
 ·subst hn;exact⟨[],RV.mk_slice (l:=([]:List ρ)) h1 h2 (λh=>absurd rfl h),rfl,λi cs x h=>by simp at h⟩
 ·obtain⟨ad,rfl,hF,he⟩:=h3 hn;obtain⟨rs,g1,g2⟩:=NE (ρ:=ρ) he;have hl:rs.length=xs.length:=by simpa using g2.1
  exact⟨rs,by rw[<-hl];exact RV.mk_slice (by omega) h2 (λ_=>⟨ad,rfl,hF,g1⟩),g2⟩
theorem NM{ad:Addr}:∀{rs:List ρ}{xs:List U}{i:Nat},elems w F ad i rs->Css w F (rs.map Flat.enc) xs->elems w F ad i xs
 |[],[],_,_,_=>trivial
 |[],x::xs,_,_,h=>by have:=h.1;simp at this
 |q::rs,[],_,_,h=>by have:=h.1;simp at this
 |q::rs,x::xs,i,h,hc=>by
  obtain⟨⟨cs,h1,h2⟩,h3⟩:=h;obtain rfl:=Flat.iff.1 h1;refine⟨⟨_,hc.2 0 _ _ rfl rfl,by grind[RawOf.sz]⟩,NM h3 ⟨by simpa using hc.1,λj cs y hj hy=>hc.2 (j+1) cs y (by simp_all) (by simp_all)⟩⟩
def Oj{rs:List ρ}{xs:List U}(h:RV w F v rs)(hc:Css w F (rs.map Flat.enc) xs):RV w F v xs:=by
 obtain⟨a,cp,rfl,h1,h2,h3⟩:=RV.slice h;have hl:rs.length=xs.length:=by simpa using hc.1
 rw[hl];refine RV.mk_slice (by omega) h2 λhn=>?_;obtain⟨ad,rfl,hF,he⟩:=h3 (by grind);exact⟨ad,rfl,hF,NM he hc⟩
omit [RawOf ρ U]in
def Gj{rs:List ρ}{xs:List U}(hc:Css w F (rs.map Flat.enc) xs){i:Nat}{x:U}(hx:xs[i]? =some x):∃q,rs[i]? =some q/\Rep.ok w F (Flat.enc q) x:=by
 have hl:rs.length=xs.length:=by simpa using hc.1
 have hlt:=(Zbu.1 hx).1;have hq:rs[i]? =some rs[i]:=by simp[hl,hlt]
 exact⟨rs[i],hq,hc.2 i _ x (by rw[ZbO,hq];rfl) hx⟩
omit [RawOf ρ U]in
def Ac{rs:List ρ}{xs:List U}{n:Nat}{q:ρ}{x:U}(hc:Css w F (rs.map Flat.enc) xs)(hq:Rep.ok w F (Flat.enc q) x):Css w F ((rs.set n q).map Flat.enc) (xs.set n x):=by
 refine⟨by simpa using hc.1,λi cs y hi hy=>?_⟩;rw[ZbO,Zde]at hi;rw[Zde]at hy;have hl:rs.length=xs.length:=by simpa using hc.1
 by_cases e:n=i
 ·subst e;by_cases hlt:n<rs.length
  ·simp only[Zb5,hlt,ZbF,Option.some.injEq]at hi;rw[hl]at hlt;simp only[Zb5,hlt,Option.some.injEq]at hy;subst hi;subst hy;exact hq
  ·simp[hlt]at hi
 ·rw[Zbv e]at hi hy;exact hc.2 i cs y (by rw[ZbO];exact hi) hy
omit [RawOf ρ U]in
def JQ{rs rs':List ρ}{xs xs':List U}(hc:Css w F (rs.map Flat.enc) xs)(hc':Css w F (rs'.map Flat.enc) xs'):Css w F ((rs++rs').map Flat.enc) (xs++xs'):=by
 have hl:rs.length=xs.length:=by simpa using hc.1
 refine⟨by simp[hl,(show rs'.length=xs'.length by simpa using hc'.1)],λi cs y hi hy=>?_⟩;rw[Zce,Zdq,ZbK]at hi;rw[Zdq,<-hl]at hy;split at hi
 ·rename_i h;rw[Zbq h]at hy;exact hc.2 i cs y hi hy
 ·rename_i h;rw[Zbv h]at hy;exact hc'.2 _ cs y hi hy
end
section
variable{ρ U:Type}[Flat ρ][Rep U]
def LitA(Φ:List RF)(w:World):List ρ->List U->Prop
 |[],[]=>True
 |q::rs,x::xs=>Ava [] Φ w (RO (Rep.val ρ (Flat.enc q)) x)/\LitA Φ w rs xs
 |_,_=>False
theorem LitA.css[RawOf ρ U]{Φ:List RF}{w:World}{F:Nat->Prop}(hf:AllF Φ w F):∀{rs:List ρ}{xs:List U},LitA Φ w rs xs->Css w F (rs.map Flat.enc) xs
 |[],[],_=>⟨rfl,λi cs x h=>by simp at h⟩
 |[],_::_,h=>h.elim
 |_::_,[],h=>h.elim
 |q::rs,x::xs,h=>by
  have h2:=LitA.css hf h.2;refine⟨by simpa using h2.1,λi cs y hi hy=>?_⟩;cases i with
  |zero=>simp only[Zb1,ZcN,Option.some.injEq]at hi hy;subst hi;subst hy;exact Jt (h.1.ro hf)
  |succ i=>exact h2.2 i cs y (by simp_all) (by simp_all)
variable{P:Program}{B:Bs}{N:Nat}{Z:List (Nat×Value)}{Γ:List HP}{Φ:List RF}{a:Act}{w:World}{Q:Exit->Act->World->Prop}
  {ops:Array Oper}{k d d2:Nat}{t t' ty ty':TypeId}{pos pos':String}{af af':Array Edge}{x y z:Operand}{E:TypeId}{v u:Value}{rs:List ρ}{xs ms r:List U}
def Ava.gr[RawOf ρ U](i j:Nat)(hi:Γ[i]? =some (SL E v rs):=by rfl)(hj:Φ[j]? =some (CS rs xs):=by rfl):Ava Γ Φ w (RO v xs):=λS F hs hf=>by
 have h1:=RV.sub (F':=λk=>F k\/S k) (hs.rv i hi) λ_ _ h=>.inr h;have h2:=(CS rs xs).sub (F':=λk=>F k\/S k) (hf.get hj) λ_ _ h=>.inl h;exact Oj h1 h2
def Cx.csn(c:Cx B N Z Γ Φ a w):Cx B N Z Γ (Φ++[CS ([]:List ρ) ([]:List U)]) a w:=c.fad λF _=>⟨rfl,λi cs x h=>by simp at h⟩
def Cx.relenr{b:Option Addr}{n cp:Nat}(i j:Nat)(c:Cx B N Z Γ Φ a w)(hi:Γ[i]? =some (SL E (.slice b n cp) rs):=by rfl)(hj:Φ[j]? =some (CS rs xs):=by rfl):n=xs.length/\Cx B N Z (Γ.set i (SL E (.slice b xs.length cp) rs)) Φ a w:=by
 obtain⟨he,c⟩:=c.relen i hi;obtain⟨F,h⟩:=c.use (Ava.f j hj);have hl:rs.length=xs.length:=by simpa using h.1
 simp_all
def Cx.fzr[RawOf ρ U](i j:Nat)(c:Cx B N Z Γ Φ a w)(hi:Γ[i]? =some (SL E v rs):=by rfl)(hj:Φ[j]? =some (CS rs xs):=by rfl):Cx B N Z (rest [i] Γ) (Φ++[RO v xs]) a w:=by
 obtain⟨h,S,F,h1,h2,h3⟩:=c;have hp:=h2.part [i] (Γ1:=[SL E v rs]) (by simp[hi]) (by simp);obtain⟨S',F',hM,hs,hr,hfz⟩:=Sep.freeze (L:=rest [i] Γ) hp h1;have h3':=h3.sub (F':=F') λk _ hk=>hfz k hk;exact⟨h,S',F',hM,hs,h3'.add (Oj (SL.rv hr) (h3'.get hj))⟩
def Eltr[RawOf ρ U]{n:Nat}{parts:Array (Nat×Operand)}(E:TypeId)(rs:List ρ)(xs:List U)(c:Cx B N Z Γ Φ a w)(hx:LitA Φ w rs xs)
  (h:∀a' c' fr w',Cx B N ((d,.slice a' xs.length c')::Z) (Γ++[SL E (.slice a' xs.length c') rs]) (Φ++[CS rs xs]) fr w'->wpFrom P ops Q (k+1) fr w')
  (ho:ops[k]? =some ⟨some d,.buildSlice t n parts,ty,pos,af,none⟩:=by rfl)(hd:Nat.blt d N=true:=by rfl)(hln:rs.length=n:=by rfl)(hmax:Nat.ble rs.length room=true:=by rfl)
  (hv:parts.toList.map (λp=>opd Z p.2)=(rs.map λx=>Rep.val ρ (Flat.enc x)).map some:=by kernel_rfl)
  (hrun:∀w,(Instr.buildSlice t n ((parts.toList.map (·.1)).zip (rs.map λx=>Rep.val ρ (Flat.enc x))).toArray).run P w= .ok (.slice (some ⟨w.heap.size,0,none⟩) n n) (w.alloc (.cells (rs.map Flat.enc).flatten.toArray E)):=by intro _;kernel_rfl):wpFrom P ops Q k a w:=by
 have c:=c.fad (Rf:=CS rs xs) λF hf=>hx.css hf;have hl:rs.length=xs.length:=by
  obtain⟨_,_,_,_,_,hf⟩:=c;simpa using(hf (CS rs xs) (Zb7.2 (.inr (Zb3.2 rfl)))).1
 refine Elt E rs c (λa' c' fr w' c=>?_) ho hd hln hmax hv hrun;grind
def Esetr[RawOf ρ U]{n:Int}{q:ρ}{e:U}(i j:Nat)(c:Cx B N Z Γ Φ a w)(hx:Ava [] Φ w (RO (Rep.val ρ (Flat.enc q)) e))(hr:set? xs n e=some r)
  (h:∀p fr w',Cx B N ((d,p)::Z) (Γ.set i (SL E v (rs.set n.toNat q))) (Φ++[CS (rs.set n.toNat q) r]) fr w'->wpFrom P ops Q (k+2) fr w')(hi:Γ[i]? =some (SL E v rs):=by rfl)(hj:Φ[j]? =some (CS rs xs):=by rfl)
  (ho:ops[k]? =some ⟨some d,.indexAddr t x y,ty,pos,af,none⟩:=by rfl)(ho':ops[k+1]? =some ⟨none,.store t' (.tmp d) z,ty',pos',af',none⟩:=by rfl)(hte:t'=E:=by rfl)(hd:Nat.blt d N=true:=by rfl)(hz:z≠ .tmp d:=by simp)
  (he:Ty P E ρ:=by constructor<;>kernel_rfl)(ht:P.underlying t=some (.slice E):=by kernel_rfl)(hxv:opd Z x=some v:=by kernel_rfl)(hy:numOf (opd Z y)=some n:=by kernel_rfl)(hq:opd Z z=some (Rep.val ρ (Flat.enc q)):=by kernel_rfl):wpFrom P ops Q k a w:=by
 obtain⟨F0,h0⟩:=c.use (Ava.f j hj);have hl:rs.length=xs.length:=by simpa using h0.1
 obtain⟨h1,h2,h3⟩:=set?_raw q hr hl;have c:=c.fad (Rf:=CS (rs.set n.toNat q) r) λF hf=>by
  rw[h2];exact Ac (hf.get hj) (Jt (hx.ro hf))
 grind[Eset]
def Eapr[RawOf ρ U](i j:Nat)(c:Cx B N Z Γ Φ a w)(hu:Ava [] Φ w (RO u ms))(hr:app? xs ms=some r)
  (h:∀(rm:List ρ)a' c' fr w',Cx B N ((d,.slice a' r.length c')::Z) (Γ.set i (SL E (.slice a' r.length c') (rs++rm))) (Φ++[CS (rs++rm) r]) fr w'->wpFrom P ops Q (k+1) fr w')(hi:Γ[i]? =some (SL E v rs):=by rfl)(hj:Φ[j]? =some (CS rs xs):=by rfl)
  (ho:ops[k]? =some ⟨some d,.call ⟨.builtin .append,#[x,y],#[t,t']⟩,ty,pos,af,none⟩:=by rfl)(htt:t'=t:=by rfl)(hd:Nat.blt d N=true:=by rfl)(he:ElT P E ρ:=by refine elT ?_;kernel_rfl)(ht:P.underlying t=some (.slice E):=by kernel_rfl)
  (hx:opd Z x=some v:=by kernel_rfl)(hy:opd Z y=some u:=by kernel_rfl):wpFrom P ops Q k a w:=by
 obtain⟨hF,S,F,hM,hs,hf⟩:=c;obtain⟨rm,g1,g2⟩:=DW (ρ:=ρ) (hu.ro hf);have hc:=JQ (hf.get hj) g2;have hl:rs.length=xs.length:=by simpa using(hf.get hj).1
 have hl':rm.length=ms.length:=by simpa using g2.1
 obtain⟨h1,h2⟩:=app?_raw (l':=rs) (m':=rm) hr hl hl';rw[<-h2]at hc;have c:Cx B N Z Γ (Φ++[RO u rm]++[CS (rs++rm) r]) a w:=⟨hF,S,F,hM,hs,(hf.add (R:=RO u rm) g1).add (R:=CS (rs++rm) r) hc⟩;have hlen:(rs++rm).length=r.length:=by simp_all
 refine Eap i c (Ava.f Φ.length (by simp)) h1 (λa' c' fr w' c=>?_) hi ho htt hd he ht hx hy;rw[hlen]at c;refine h rm a' c' fr w' ?_;obtain⟨q1,q2,q3,q4,q5,q6⟩:=c;exact⟨q1,q2,q3,q4,q5,λR hR=>q6 R ((Zb7.1 hR).elim (λh=>Zb7.2 (.inl (Zb7.2 (.inl h)))) λh=>Zb7.2 (.inr h))⟩
def Eemr[RawOf ρ U]{n:Int}{q:U}(i j:Nat)(c:Cx B N Z Γ Φ a w)(hz:get? xs n=some q)(h:∀p u fr,Cx B N ((d2,u)::(d,p)::Z) Γ (Φ++[RO u q]) fr w->wpFrom P ops Q (k+2) fr w)(hi:Γ[i]? =some (SL E v rs):=by rfl)(hj:Φ[j]? =some (CS rs xs):=by rfl)
  (ho:ops[k]? =some ⟨some d,.indexAddr t x y,ty,pos,af,none⟩:=by rfl)(ho':ops[k+1]? =some ⟨some d2,.load t' (.tmp d),ty',pos',af',none⟩:=by rfl)(hd:Nat.blt d N=true:=by rfl)(hd':Nat.blt d2 N=true:=by rfl)
  (he:Ty P t' ρ:=by constructor<;>kernel_rfl)(ht:P.underlying t=some (.slice t'):=by kernel_rfl)(hx:opd Z x=some v:=by kernel_rfl)(hy:numOf (opd Z y)=some n:=by kernel_rfl):wpFrom P ops Q k a w:=by
 obtain⟨F0,h0⟩:=c.use (Ava.f j hj);obtain⟨q',g1,_⟩:=Gj h0 (get?_at hz);have hz':get? rs n=some q':=by simp_all[get?,Zbq,get?_nn]
 refine Eel c (Ava.g i hi) hz' (λp fr c=>h p _ fr (c.fad λF hf=>?_)) ho ho' hd hd' he ht hx hy;have hc:=hf.get hj;exact⟨Flat.enc q',hc.2 _ _ q (by simp_all) (get?_at hz),by grind[Rep.val,RawOf.agg]⟩
end
def Opens(P:Program)(t:TypeId)(U:Type)[Rep U](fit:U->Prop):Prop:=
 ∀(H:Type)(enc:TypeId×Value->H)(w:World)(base:Nat)(spare:Nat->Bool)(held:Bool)(fuel:Nat)(cs:List Value)(x:DataW H×List MemPlace),
  DataW.trod enc P w base spare held fuel t cs=some x->∃a:U,Rep.ok w (λk=>k<w.heap.size) cs a/\fit a
section
variable{P:Program}{t e:TypeId}
def Ep(ht:P.underlying t=some (.int .u8)):Opens P t Byt fitByt:=by
 intro H enc w base spare held fuel cs x h;obtain⟨n,rfl,-,hn⟩:=DataW.trod_int ht h;refine⟨⟨n⟩,rfl,?_⟩;simp only[Lit.wf,Zbt,Zb8]at hn;exact hn
theorem GM{U:Type}{p:Nat->U->Prop}:∀n,(∀i,i<n->∃y,p i y)->∃l:List U,l.length=n/\∀i y,l[i]? =some y->p i y
 |0,_=>⟨[],rfl,by simp⟩
 | n+1,h=>by
  obtain⟨l,hl,hp⟩:=GM n λi hi=>h i (by omega);obtain⟨y,hy⟩:=h n (by omega);refine⟨l++[y],by simp[hl],λi z hz=>?_⟩;rw[Zdq]at hz;split at hz
  ·exact hp i z hz
  ·have:i=n:=by
    rcases Zdt (i-l.length) 1 with h1|h1
    ·omega
    ·rw[ZbP (by simpa using h1)]at hz;cases hz
   subst this;rw[hl,ZcG]at hz;simp only[ZcN,Option.some.injEq]at hz;subst hz;exact hy
def Jw{U:Type}[Rep U]{fit:U->Prop}(ht:P.underlying t=some (.slice e))(hs:P.cellsOf e=Rep.sz U)(he:Opens P e U fit):Opens P t (List U) (fitList fit):=by
 intro H enc w base spare held fuel cs x h;rcases DataW.trod_slice ht h with⟨rfl,_⟩|⟨a,len,cap,elems',rest,n,rfl,rfl,_,hb,hl,hc,hlen,hel,_⟩
 ·exact⟨[],⟨none,0,rfl,Zb0 _,ZcA _,λh=>absurd rfl h⟩,ZcA _,by simp⟩
 ·have key:∀i,i<len->∃y:U,(∃cs',Rep.ok w (λk=>k<w.heap.size) cs' y/\Cells w (a.add (i*Rep.sz U)) cs')/\fit y:=by
   intro i hi;have h1:=hel i hi;obtain⟨z,hz⟩:∃z,elems'[i]? =some z:=⟨_,Zbo (by omega)⟩;rw[hz,ZbG]at h1;obtain⟨cs',hc1,hc2⟩:=h1;obtain⟨y,hy,hf⟩:=he _ _ _ _ _ _ _ _ _ hc2;obtain⟨_,hl1,hc3⟩:=World.cells?_some hc1;refine⟨y,⟨cs',hy,λj u hu=>?_⟩,hf⟩;have hj:j<cs'.length:=(Zbu.1 hu).1;rw[<-hs,hc3 j (by omega)];exact hu
  obtain⟨l,hll,hp⟩:=GM len key;have hE:elems w (λk=>k<w.heap.size) a 0 l:=SA λi x hx=>by rw[Zdc];exact(hp i x hx).1
  refine⟨l,⟨some a,cap,by rw[hll],by omega,hc,λhne=>⟨a,rfl,?_,hE⟩⟩,by show l.length<=maxLen;omega,λx hx=>?_⟩
  ·exact Kv hE hne
  ·obtain⟨i,hi⟩:=Zcq.1 hx;exact(hp i x hi).2
def open_list{H:Type}{enc:TypeId×Value->H}{w:World}{base:Nat}{spare:Nat->Bool}{held:Bool}{v:Value}{d:DataW H}{ps:List MemPlace}{U:Type}[Rep U]{fit:List U->Prop}{r:Reach}{b:Nat}
  (ht:P.underlying t=some (.slice e))(hop:Opens P t (List U) fit)(hv:Value.okWide P w r b t v)(h:DataW.Trod enc P w base spare held t v d ps):∃a:List U,RV w (λk=>k<w.heap.size) v a/\fit a:=by
 obtain⟨a',l',c',rfl⟩:=WideShapes.okWide_slice ht hv;obtain⟨fuel,hf⟩:=h;obtain⟨a,h1,h2⟩:=hop _ _ _ _ _ _ _ _ _ hf;exact⟨a,⟨_,h1,rfl⟩,h2⟩
end
end Go.GL
end
section
namespace Go.GL
theorem Zb{x:Int}(h1:-9223372036854775808<=x:=by omega)(h2:x<=9223372036854775807:=by omega):w64 x=x:=by
 unfold w64;rw[IntKind.wrap_i64];omega
def ifn{c:Prop}[Decidable c]{U:Sort _}{x y:U}(h:¬c:=by first|omega|decide|simp):ite c x y=y:=Zbv h
def ifp{c:Prop}[Decidable c]{U:Sort _}{x y:U}(h:c:=by first|omega|decide|simp):ite c x y=x:=Zbq h
theorem Za{U:Type}(l:List U):len l=(l.length:Int):=rfl
theorem get?_nat{U:Type}{l:List U}{i:Nat}:get? l (i:Int)=l[i]?:=by
 unfold get?;rw[Zbq (by omega)];rfl
theorem set?_nat{U:Type}{l:List U}{i:Nat}{x:U}(h:i<l.length):set? l (i:Int) x=some (l.set i x):=by
 unfold set?;rw[Zbq ⟨by omega,by simpa using h⟩];rfl
theorem YE{σt ρt:Type}{B:σt->Option (σt⊕ρt)}{I:Nat->σt->Prop}{m:Nat}{r:ρt}(hs:∀k s,k<m->I k s->∃s',B s=some (.inl s')/\I (k+1) s')(hf:∀s,I m s->B s=some (.inr r)):
  ∀(d k:Nat)(s:σt),k+d=m->I k s->∀n,d<n->iterN B n s=some r
 |0,k,s,hk,hi,n,hn=>by
  obtain⟨n,rfl⟩:∃j,n=j+1:=⟨n-1,by omega⟩;obtain rfl:k=m:=by omega
  unfold iterN;rw[hf s hi]
 |d+1,k,s,hk,hi,n,hn=>by
  obtain⟨n,rfl⟩:∃j,n=j+1:=⟨n-1,by omega⟩;obtain⟨s',h1,h2⟩:=hs k s (by omega) hi;unfold iterN;rw[h1];exact YE hs hf d (k+1) s' (by omega) h2 n (by omega)
def mk?_len{U β:Type}{l:List U}{z:β}(h:l.length<=room):mk? (len l) z=some (List.replicate l.length z):=by
 unfold mk?;rw[Za,Zbq ⟨by omega,by simpa using h⟩];rfl
end Go.GL
namespace Go.GL
def pre{U:Type}(f:Nat->U)(p:List U)(i:Nat):List U:=(List.range i).map f++p.drop i
def LD{U:Type}{f:Nat->U}{p:List U}{i:Nat}(h:i<p.length):(pre f p i)[i]? =p[i]?:=by
 unfold pre;rw[ZbB (by simp),Zc1];simp
end Go.GL
namespace Go.GL
theorem WT{σt ρt:Type}{B:σt->Option (σt⊕ρt)}{I:Nat->σt->Prop}{m:Nat}{ok:Nat->Bool}{r r':ρt}(hs:∀k s,k<m->I k s->ok k=true->∃s',B s=some (.inl s')/\I (k+1) s')(hn:∀k s,k<m->I k s->ok k=false->B s=some (.inr r'))
  (hf:∀s,I m s->B s=some (.inr r)):∀(d k:Nat)(s:σt),k+d=m->I k s->∀n,d<n->iterN B n s=some (if(List.range' k d).all ok=true then r else r')
 |0,k,s,hk,hi,n,hn'=>by
  obtain⟨n,rfl⟩:∃j,n=j+1:=⟨n-1,by omega⟩;obtain rfl:k=m:=by omega
  unfold iterN;rw[hf s hi];simp
 | d+1,k,s,hk,hi,n,hn'=>by
  obtain⟨n,rfl⟩:∃j,n=j+1:=⟨n-1,by omega⟩;unfold iterN;rw[ZdU];cases hok:ok k with
  |true=>
   obtain⟨s',h1,h2⟩:=hs k s (by omega) hi hok;rw[h1];simp only;rw[WT hs hn hf d (k+1) s' (by omega) h2 n (by omega),ZdW,hok,Zcn]
  |false=>
   rw[hn k s (by omega) hi hok,ZdW,hok];simp
end Go.GL
end
section
namespace Go.GL
open Go.RowKit
def OpensN(P:Program)(m:Nat)(t:TypeId)(U:Type)[Rep U](fit:U->Prop):Prop:=
 ∀(H:Type)(enc:TypeId×Value->H)(w:World)(base:Nat)(spare:Nat->Bool)(held:Bool)(fuel:Nat)(cs:List Value)(x:DataW H×List MemPlace),
  fuel<=m->DataW.trod enc P w base spare held fuel t cs=some x->∃a:U,Rep.ok w (λk=>k<w.heap.size) cs a/\fit a
section
variable{P:Program}{t e:TypeId}
def Opens.N{U:Type}[Rep U]{fit:U->Prop}{m:Nat}(h:Opens P t U fit):OpensN P m t U fit:=λH enc w base spare held fuel cs x _ hx=>h H enc w base spare held fuel cs x hx
end
def Con.law{P:Program}{f:FuncId}{args:List Value}{Φ:List RF}{r:Bool}{w:World}{F:Nat->Prop}(hc:Con P f args [] Φ λ(_:Unit)=>([.bool r],[],[]))(hF:AllF Φ w F)(hl:∀k,F k->k<w.heap.size):
  Calls P f args.toArray w λe w'=>∃v,e= .returned v/\v= .bool r/\Chg Non w w':=by
 refine(hc w Non F (Sep.nil _ _) hF (λ_ h=>h.elim) hl (λ_ h=>h.elim)).mono ?_;rintro e w'' ⟨i,S',F',rfl,hM',_,_⟩;exact⟨_,rfl,rfl,hM'.chg⟩
def Bd{U β:Type}{e:Option U}{f:U->Option β}{r:β}{G:Prop}(h:e.bind f=some r)(k:∀x,e=some x->f x=some r->G):G:=by
 obtain⟨x,h1,h2⟩:=bindE h;simp_all
def sj{U:Type}{a b:U}(h:some a=some b):a=b:=Option.some.inj h
def kN{p q:Prop}(h:p):q->p:=λ_=>h
section
variable{P:Program}{B:Bs}{N:Nat}{Z:List (Nat×Value)}{Γ:List HP}{Φ:List RF}{a:Act}{w:World}{K:Act->World->Prop}{Q:Exit->Act->World->Prop}{ops:Array Oper}{pds:List Pd}{j:Nat}
def gT{β:Type}{X Y r:β}{g':Nat}{b:Bool}(h:(if b=true then X else Y)=r)(hgd:guardOf ops j=some (g',true):=by rfl)(hn:∃n,ops.size=n+1:=by exact⟨_,rfl⟩)(hp:(pds.getD g' .any).val? =some (.bool b):=by kernel_rfl)(hg:gc ops pds ops.size j):X=r:=iteT (gcT hg hgd hn hp) h
def gF{β:Type}{X Y r:β}{g':Nat}{b:Bool}(h:(if b=true then X else Y)=r)(hgd:guardOf ops j=some (g',false):=by rfl)(hn:∃n,ops.size=n+1:=by exact⟨_,rfl⟩)(hp:(pds.getD g' .any).val? =some (.bool b):=by kernel_rfl)(hg:gc ops pds ops.size j):Y=r:=iteF (gcF hg hgd hn hp) h
def Zc{np:Pd}{ms:List Nat}(ow:Nat->Nat)(h:Good ops pds []->pds.getD j .any=np.inst ow->NPB P true ms ops pds a w Q j)(hG:Good ops pds [])(e:pds.getD j .any=np.inst ow):NPO P ms ops pds a w Q ow j:=Zai ow (h hG e)
theorem AllP.and{U:Type}{p:Prop}{q:U->Prop}:∀{l:List U},AllP (λx=>p->q x) l->p->AllP q l
 |[],_,_=>trivial
 |_::_,h,hp=>⟨h.1 hp,h.2.and hp⟩
def rZ{id:Nat}{draw:Bool}(np:List (Nat×Pd))(hs:List (Nat×Nat))(hmix:P.follows .mixedOrders=true)(c:Cx B N Z Γ Φ a w)
  (hnp:AllP (λp=>Good ops (pdsM P (bxsOf Γ Φ) hs ops Z np ops.size) []->(pdsM P (bxsOf Γ Φ) hs ops Z np ops.size).getD p.1 .any=p.2->NPB P draw (cond draw (masksN ops ops.size) []) ops (pdsM P (bxsOf Γ Φ) hs ops Z np ops.size) a w (Exit.then K Q) p.1) np)
  (h:∀fr w',Cx B N (outS ops Z (pdsM P (bxsOf Γ Φ) hs ops Z np ops.size) ops.size) Γ Φ fr w'->K fr w')
  (hmono:AllP (λp=>p.2.Mono Non) np:=by repeat(first|exact trivial|refine⟨by first|exact Pd.mono_eq|exact elM|exact flM|exact rdM|exact Mx,?_⟩))
  (hst:(stat draw (cond draw (masksN ops ops.size) []) ops [] N&&statG ops (pdsM P (bxsOf Γ Φ) hs ops Z np ops.size) [])=true:=by kernel_rfl)
  (h1:(freeI np ops.size).map (λj=>(pureB P (bxsOf Γ Φ) hs ops Z (pdsM P (bxsOf Γ Φ) hs ops Z np ops.size) j).map (·.1))=(freeI np ops.size).map λj=>((pdsM P (bxsOf Γ Φ) hs ops Z np ops.size).getD j .any).val?:=by kernel_rfl)
  (h2:((freeI np ops.size).all λj=>((pdsM P (bxsOf Γ Φ) hs ops Z np ops.size).getD j .any).val?.isSome)=true:=by kernel_rfl)
  (h3:(freeI np ops.size).map (λj=>(pureB P (bxsOf Γ Φ) hs ops Z (pdsM P (bxsOf Γ Φ) hs ops Z np ops.size) j).map λr=>r.2.map (·.1))=(freeI np ops.size).map λj=>(pureB P (bxsOf Γ Φ) hs ops Z (pdsM P (bxsOf Γ Φ) hs ops Z np ops.size) j).map λr=>r.2.map (·.2):=by kernel_rfl):
  (Code.region id ops draw).wp P (Exit.then K Q) a w:=Rz np hs hmix c hmono (λhG=>hnp.and hG) h hst h1 h2 h3
def rM(m:Nat)(np:List (Nat×Pd))(hs:List (Nat×Nat))(c:Cx B N Z Γ Φ a w)
  (hnp:∀ow,AllP (λp=>Good ops (instL ow (pdsM P (bxsOf Γ Φ) hs ops Z np m)) []->(instL ow (pdsM P (bxsOf Γ Φ) hs ops Z np m)).getD p.1 .any=p.2.inst ow->NPO P (masksN ops ops.size) ops (instL ow (pdsM P (bxsOf Γ Φ) hs ops Z np m)) a w Q ow p.1) np)
  (h:∀ow fr w',EndM ops (TT ops (instL ow (pdsM P (bxsOf Γ Φ) hs ops Z np m))) a m fr w'->Chg Non w w'->Cx B N (outS ops Z (pdsM P (bxsOf Γ Φ) hs ops Z np m) m) Γ Φ fr w'->wpFrom P ops Q m fr w')
  (hmono:AllP (λp=>p.2.MonoO) np:=by repeat(first|exact trivial|refine⟨by first|exact Pd.monoO_eq|exact elO|exact nwM|exact flO|exact rdO|exact Pd.monoO_is Mx,?_⟩))
  (hst:(stat true (masksN ops ops.size) ops [] N&&statG ops (pdsM P (bxsOf Γ Φ) hs ops Z np m) []&&sufB ops m)=true:=by kernel_rfl)
  (h1:(freeI np m).map (λj=>(pureB P (bxsOf Γ Φ) hs ops Z (pdsM P (bxsOf Γ Φ) hs ops Z np m) j).map (·.1))=(freeI np m).map λj=>((pdsM P (bxsOf Γ Φ) hs ops Z np m).getD j .any).val?:=by kernel_rfl)
  (h2:((freeI np m).all λj=>((pdsM P (bxsOf Γ Φ) hs ops Z np m).getD j .any).val?.isSome)=true:=by kernel_rfl)
  (h3:(freeI np m).map (λj=>(pureB P (bxsOf Γ Φ) hs ops Z (pdsM P (bxsOf Γ Φ) hs ops Z np m) j).map λr=>r.2.map (·.1))=(freeI np m).map λj=>(pureB P (bxsOf Γ Φ) hs ops Z (pdsM P (bxsOf Γ Φ) hs ops Z np m) j).map λr=>r.2.map (·.2):=by kernel_rfl):
  RA P ops Q a w:=Rm m np hs c hmono (λow hG=>(hnp ow).and hG) h hst h1 h2 h3
abbrev Pd.l0:Pd:=.is λv _=>∃b,v= .slice b 0 0
def Nl0{draw:Bool}{ms:List Nat}{dst:Option Tmp}{t ty:TypeId}{pos:String}{af:Array Edge}{g:Option (Nat×Bool)}(E:TypeId)(c:Cx B N Z Γ Φ a w)(ho:ops[j]? =some ⟨dst,.buildSlice t 0 #[],ty,pos,af,g⟩:=by rfl)
  (hrun:∀w,(Instr.buildSlice t 0 #[]).run P w= .ok (.slice (some ⟨w.heap.size,0,none⟩) 0 0) (w.alloc (.cells #[] E)):=by intro _;kernel_rfl)(hG:Good ops pds [])(hpd:pds.getD j .any= .is λv _=>∃b,v= .slice b 0 0):NPB P draw ms ops pds a w Q j:=Aw hG c.fr ho hrun hpd
def Nap0{ow:Nat->Nat}{ms:List Nat}{dst:Option Tmp}{t t' ty:TypeId}{pos:String}{af:Array Edge}{g:Option (Nat×Bool)}{y:Operand}{U:Type}[Flat U]{E:TypeId}{s:Nat}{u:Value}{m r:List U}(c:Cx B N Z Γ Φ a w)(i:Nat)(hpi:pds.getD i .any= .is λv _=>∃b,v= .slice b 0 0)(hl:Ava Γ Φ w (RO u m))(hr:gc ops pds ops.size j->app? ([]:List U) m=some r)
  (ho:ops[j]? =some ⟨dst,.call ⟨.builtin .append,#[.tmp s,y],#[t,t']⟩,ty,pos,af,g⟩:=by rfl)(htt:t'=t:=by rfl)(hj:Nat.blt j ops.size=true:=by rfl)(hlw:lastW ops s j=some i:=by rfl)(hok:okG ops ops.size j i=true:=by rfl)(ht:P.underlying t=some (.slice E):=by kernel_rfl)(hE:ElT P E U:=by refine elT ?_;kernel_rfl)
  (hy:envP ops Z pds j y=some u:=by kernel_rfl)(hG:Good ops pds [])(hpd:pds.getD j .any= .is λv w'=>∃i:Option Addr×Nat,v= .slice i.1 (List.length r) i.2/\(SL E (.slice i.1 (List.length r) i.2) r).ok w' (λk=>w.heap.size<=k/\k<w'.heap.size/\ow k=j)):NPO P ms ops pds a w Q ow j:=by
 obtain⟨F,hl⟩:=c.use hl;exact AP hG c.fr ht hE ho htt hj hlw hok hpi hy hl hr hpd
def EA(U:Type)[Rep U](v:Value)(n:Int)(p:Addr)(u:Value):RF where
 ok w F:=(∃ad len cap,v= .slice (some ad) len cap/\p=ad.add (n.toNat*Rep.sz U)/\0<=n/\n<(len:Int))/\∃cs,u=Rep.val U cs/\cs.length=Rep.sz U/\Cells w p cs/\F p.block/\p.block<w.heap.size
 sub h hs:=⟨h.1,h.2.imp λ_ h=>⟨h.1,h.2.1,h.2.2.1,hs _ h.2.2.2.2 h.2.2.2.1,h.2.2.2.2⟩⟩
 chg h hc ht:=⟨h.1,h.2.imp λ_ h=>⟨h.1,h.2.1,h.2.2.1.keep λ_=>hc.block _ h.2.2.2.2 (ht _ h.2.2.2.1),h.2.2.2.1,ZbA h.2.2.2.2 hc.size⟩⟩
def Cx.elp{U:Type}[Rep U]{v:Value}{l:List U}{n:Int}{x:U}(c:Cx B N Z Γ Φ a w)(hl:Ava [] Φ w (RO v l))(hx:get? l n=some x):∃p u,Cx B N Z Γ (Φ++[EA U v n p u,RO u x]) a w:=by
 obtain⟨hF,S,F,h1,h2,h3⟩:=c;have hr:RV w F v l:=hl.ro h3;obtain⟨b,cap,rfl,g1,g2,g3⟩:=hr.slice;have hn:=get?_nn hx;have hat:=get?_at hx;have hlt:n.toNat<l.length:=(Zbu.1 hat).1;obtain⟨ad,rfl,hFb,hel⟩:=g3 (by grind);obtain⟨cs,hok,hc⟩:=Vt hel hat;have hc:Cells w (ad.add (n.toNat*Rep.sz U)) cs:=by simp_all
 have hne:cs≠[]:=by
  have h4:=Rep.len hok;grind[Rep.pos]
 have hb:(ad.add (n.toNat*Rep.sz U)).block<w.heap.size:=hc.lt hne;exact⟨ad.add (n.toNat*Rep.sz U),Rep.val U cs,hF,S,F,h1,h2,h3.join (AllF.of [EA U _ n _ _,RO _ x] ⟨⟨⟨ad,_,_,rfl,rfl,hn,by omega⟩,cs,rfl,Rep.len hok,hc,by simp_all[add_block],hb⟩,⟨cs,hok,rfl⟩,trivial⟩)⟩
def Nie{draw:Bool}{ms:List Nat}{dst:Option Tmp}{t ty:TypeId}{pos:String}{af:Array Edge}{g:Option (Nat×Bool)}{x y:Operand}{U:Type}[Rep U]{e:TypeId}{v u:Value}{n:Int}{p:Addr}(c:Cx B N Z Γ Φ a w)(k:Nat)(hk:Φ[k]? =some (EA U v n p u):=by rfl)
  (ho:ops[j]? =some ⟨dst,.indexAddr t x y,ty,pos,af,g⟩:=by rfl)(ht:P.underlying t=some (.slice e):=by rfl)(he:Ty P e U:=by constructor<;>kernel_rfl)(hx:envP ops Z pds j x=some v:=by kernel_rfl)(hy:numOf (envP ops Z pds j y)=some n:=by kernel_rfl)(hG:Good ops pds [])(hpd:pds.getD j .any= .eq (.pointer (some p))):NPB P draw ms ops pds a w Q j:=by
 obtain⟨F,⟨ad,len,cap,rfl,rfl,hn,hlt⟩,_⟩:=c.use (Ava.f k hk);obtain⟨kd,hy⟩:=Yk hy;refine TI _ ho hG c.fr λa' w' _ hg hv _=>?_;have h1:=hv x _ (by simp[Op.operands]) hx;have h2:=hv y _ (by simp[Op.operands]) hy;refine Zi (v:=.pointer (some (ad.add (n.toNat*Rep.sz U)))) (w':=w') ?_ (by rw[hpd];exact⟨rfl,Chg.refl _ _⟩);simp[execOp,Instr.indexAt,h1,h2,asIntOf,run_underlying ht,hn,hlt,he.sizeOf]
def Nle{draw:Bool}{ms:List Nat}{dst:Option Tmp}{t ty:TypeId}{pos:String}{af:Array Edge}{g:Option (Nat×Bool)}{x:Operand}{U:Type}[Rep U]{v u:Value}{n:Int}{p:Addr}(c:Cx B N Z Γ Φ a w)(k:Nat)(hk:Φ[k]? =some (EA U v n p u):=by rfl)
  (ho:ops[j]? =some ⟨dst,.load t x,ty,pos,af,g⟩:=by rfl)(ht:Ty P t U:=by constructor<;>kernel_rfl)(hx:envP ops Z pds j x=some (.pointer (some p)):=by kernel_rfl)(hG:Good ops pds [])(hpd:pds.getD j .any= .eq u):NPB P draw ms ops pds a w Q j:=by
 obtain⟨F,_,cs,rfl,hl,hc,_⟩:=c.use (Ava.f k hk);refine TI _ ho hG c.fr λa' w' hC hg hv _=>?_;have h1:=hv x _ (by simp[Op.operands]) hx;refine Zi (v:=Rep.val U cs) (w':=w') ?_ (by rw[hpd];exact⟨rfl,Chg.refl _ _⟩);simp[execOp,Instr.loadAt,h1,Instr.sureAddr,Xa ht hl (hc.ext hC)]
theorem Nlc{draw:Bool}{ms:List Nat}{dst:Option Tmp}{t ty:TypeId}{pos:String}{af:Array Edge}{g:Option (Nat×Bool)}{x:Operand}{U:Type}[Rep U]{v u z:Value}{n:Int}{p:Addr}(c:Cx B N Z Γ Φ a w)(k off:Nat)(hk:Φ[k]? =some (EA U v n p u):=by rfl)(hz:u.cells.toList[off]? =some z:=by rfl)(hag:Rep.agg U=true:=by rfl)
  (ho:ops[j]? =some ⟨dst,.load t x,ty,pos,af,g⟩:=by rfl)(ht:Ty P t Int:=by constructor<;>kernel_rfl)(hx:envP ops Z pds j x=some (.pointer (some (p.add off))):=by kernel_rfl)(hG:Good ops pds [])(hpd:pds.getD j .any= .eq z):NPB P draw ms ops pds a w Q j:=by
 obtain⟨F,_,cs,rfl,hl,hc,_⟩:=c.use (Ava.f k hk);have hz':cs[off]? =some z:=by
  simp_all[Rep.val,Zbq,Value.cells]
 have hc1:Cells w (p.add off) [z]:=λi q' hq=>by
  cases i with
  |zero=>
   simp only[ZcN,Option.some.injEq]at hq;subst hq;exact hc off z hz'
  |succ i=>simp at hq
 refine TI _ ho hG c.fr λa' w' hC hg hv _=>?_;have h1:=hv x _ (by simp[Op.operands]) hx;refine Zi (v:=z) (w':=w') ?_ (by rw[hpd];exact⟨rfl,Chg.refl _ _⟩);have:=Xa ht (cs:=[z]) rfl (hc1.ext hC);have hv':Rep.val Int [z]=z:=rfl;simp_all[execOp,Instr.loadAt,Instr.sureAddr]
def Cx.rk{σ':List (Nat×Value)}{Γ':List HP}{Φ':List RF}(c:Cx B N Z Γ Φ a w)(gs fs:List Nat)(hg:gs.map (λi=>Γ[i]?)=Γ'.map some:=by kernel_rfl)(hf:fs.map (λi=>Φ[i]?)=Φ'.map some:=by kernel_rfl)
  (hn:gs.Nodup:=by decide)(hσ:σ'.map (λp=>Z.lookup p.1)=σ'.map λp=>some p.2:=by kernel_rfl):Cx B N σ' Γ' Φ' a w:=c.re gs fs hg hf hn hσ
def Jn{x:Code}{ι:Type}(J:ι->Lpt)(c:Cx B N Z Γ Φ a w)(h1:x.wp P (λe a' w'=>e= .normal/\∃i,CxL B N Γ Φ (J i) a' w') a w)(h2:∀i a' w',CxL B N Γ Φ (J i) a' w'->K a' w'):x.wp P (Exit.then K Q) a w:=
 wp_mono h1 λe a' w'⟨he,i,hi⟩=>by subst he;exact h2 i a' w' hi
def nN{ι:Type}{J:ι->Lpt}{Γ0:List HP}{Φ0:List RF}(i:ι)(c:CxL B N Γ0 Φ0 (J i) a w):Exit.normal= .normal/\∃i,CxL B N Γ0 Φ0 (J i) a w:=⟨rfl,i,c⟩
end
abbrev I(x:Int):Value:=.int .i64 x
abbrev L{U:Type}(a:Option Addr)(l:List U)(c:Nat):Value:=.slice a (List.length l) c
abbrev B(b n:Nat):Value:=.pointer (some ⟨b,n,none⟩)
abbrev Oh:=Option Addr×Nat
abbrev Ob(U:Type):=Option Addr×Nat×U
abbrev lR{U:Type}[Rep U](a:Option Addr)(l:List U)(c:Nat):RF:=RO (L a l c) l
abbrev tV(x:D.Term)(a:Option Addr)(c:Nat):Value:=.agg #[I x.Op,I x.W,I x.N,Str.val x.Name,L a x.Kids c]
abbrev tC(x:D.Term)(a:Option Addr)(c:Nat):List Value:=[I x.Op,I x.W,I x.N,Str.val x.Name,L a x.Kids c]
abbrev tR(x:D.Term)(a:Option Addr)(c:Nat):Rw.Term:=Rw.Term.mk x.Op x.W x.N x.Name ⟨a,List.length x.Kids,c⟩
abbrev tZ:List Value:=[I 0,I 0,I 0,Str.val ⟨[]⟩,L none ([]:List D.Term) 0]
abbrev eV(x:D.State)(a:Option Addr)(c:Nat)(a1:Option Addr)(c1:Nat)(a2:Option Addr)(c2:Nat)(a3:Option Addr)(c3:Nat):Value:=
 .agg #[I x.Pc,L a x.Regs c,L a1 x.Mem c1,L a2 x.Stack c2,I x.In,L a3 x.Out c3,I x.Code,I x.Steps]
abbrev vC(x:D.Value):List Value:=[Str.val x.Name,I x.W,I x.N]
abbrev bN(n m:Nat):Array Bool:=((List.range n).map λi=>Nat.testBit m i).toArray
abbrev _root_.Prod.p2{a b c d:Type}(X:a×b×c×d):=X.2.2.1
abbrev _root_.Prod.q2{a b c:Type}(X:a×b×c):=X.2.2
abbrev _root_.Prod.p3{a b c d e:Type}(X:a×b×c×d×e):=X.2.2.2.1
abbrev _root_.Prod.q3{a b c d:Type}(X:a×b×c×d):=X.2.2.2
abbrev _root_.Prod.p4{a b c d e f:Type}(X:a×b×c×d×e×f):=X.2.2.2.2.1
abbrev _root_.Prod.q4{a b c d e:Type}(X:a×b×c×d×e):=X.2.2.2.2
abbrev _root_.Prod.p5{a b c d e f g:Type}(X:a×b×c×d×e×f×g):=X.2.2.2.2.2.1
abbrev _root_.Prod.q5{a b c d e f:Type}(X:a×b×c×d×e×f):=X.2.2.2.2.2
abbrev _root_.Prod.q6{a b c d e f g:Type}(X:a×b×c×d×e×f×g):=X.2.2.2.2.2.2
abbrev t0(x:D.Term):D.Term:=D.Term.mk x.Op x.W x.N x.Name ([]:List D.Term)
abbrev hd{U:Type}(a:Option Addr)(l:List U)(c:Nat):Hd:=⟨a,List.length l,c⟩
abbrev h0:Hd:=⟨none,List.length ([]:List D.Term),0⟩
abbrev L0:Value:=L none ([]:List D.Term) 0
abbrev u0(x:D.Term):Rw.Term:=Rw.Term.mk x.Op x.W x.N x.Name h0
def tt:True:=trivial
def l1{U:Type}(x y:U)(l:List U):(x::l).set 0 y=y::l:=rfl
def l2{U:Type}(x y:U)(l:List U)(n:Nat):(x::l).set (n+1) y=x::l.set n y:=rfl
def l3{U:Type}(x:U)(l m:List U):(x::l)++m=x::(l++m):=rfl
def l4{U:Type}(l:List U):[]++l=l:=rfl
def l5{U:Type}(l m n:List U):(l++m)++n=l++(m++n):=ZbI l m n
def l6{U:Type}(l:List U):l++[]=l:=Zcg l
theorem l7(Γ:List HP):rest [] Γ=Γ:=by
 unfold rest;generalize 0=j
 induction Γ generalizing j with
 |nil=>rfl
 |cons x l ih=>show x::restG [] (j+1) l=_;rw[ih]
theorem Ve(gs:List Nat):∀(l:List HP)(j:Nat),restG (gs.map (· +1)) (j+1) l=restG gs j l
 |[],_=>rfl
 | x::l,j=>by
  have e:memN (gs.map (· +1)) (j+1)=memN gs j:=by
   simp[PT,Zb1,List.contains_cons]
  unfold restG;rw[e,Ve gs l (j+1)]
theorem r0(x:HP)(l:List HP):rest [0] (x::l)=l:=by
 have h:∀(l:List HP)(j:Nat),restG [0] (j+1) l=l:=by
  intro l
  induction l with
  |nil=>intro _;rfl
  |cons y l ih=>intro j;show y::restG [0] (j+1+1) l=_;rw[ih]
 exact h l 0
def r1(x:HP)(l:List HP)(n:Nat):rest [n+1] (x::l)=x::rest [n] l:=congrArg (x:: ·) (Ve [n] l 0)
def r2(x:HP)(l:List HP)(n m:Nat):rest [n+1,m+1] (x::l)=x::rest [n,m] l:=congrArg (x:: ·) (Ve [n,m] l 0)
theorem r3(x:HP)(l:List HP)(m:Nat):rest [0,m+1] (x::l)=rest [m] l:=by
 have h:∀(l:List HP)(j:Nat),restG [0,m+1] (j+1) l=restG [m+1] (j+1) l:=by
  intro l
  induction l with
  |nil=>intro _;rfl
  |cons y l ih=>intro j;show cond (memN [m+1] (j+1)) _ _=cond (memN [m+1] (j+1)) _ _;simp_all
 exact(h l 0).trans (Ve [m] l 0)
theorem PV(gs:List Nat)(l:List HP)(j:Nat):restG (0::gs.map (· +1)) (j+1) l=restG gs j l:=by
 have h:∀(l:List HP)(j:Nat),restG (0::gs.map (· +1)) (j+1) l=restG (gs.map (· +1)) (j+1) l:=by
  intro l
  induction l with
  |nil=>intro _;rfl
  |cons y l ih=>intro j;show cond (memN (gs.map (· +1)) (j+1)) _ _=cond (memN (gs.map (· +1)) (j+1)) _ _;simp_all
 simp_all[trans,Ve]
def r4(x:HP)(l:List HP)(a b c:Nat):rest [a+1,b+1,c+1] (x::l)=x::rest [a,b,c] l:=congrArg (x:: ·) (Ve [a,b,c] l 0)
def r5(x:HP)(l:List HP)(b c:Nat):rest [0,b+1,c+1] (x::l)=rest [b,c] l:=PV [b,c] l 0
def r6(x:HP)(l:List HP)(a b c d:Nat):rest [a+1,b+1,c+1,d+1] (x::l)=x::rest [a,b,c,d] l:=congrArg (x:: ·) (Ve [a,b,c,d] l 0)
def r7(x:HP)(l:List HP)(b c d:Nat):rest [0,b+1,c+1,d+1] (x::l)=rest [b,c,d] l:=PV [b,c,d] l 0
def r8(x:HP)(l:List HP)(a b c d e:Nat):rest [a+1,b+1,c+1,d+1,e+1] (x::l)=x::rest [a,b,c,d,e] l:=congrArg (x:: ·) (Ve [a,b,c,d,e] l 0)
def r9(x:HP)(l:List HP)(b c d e:Nat):rest [0,b+1,c+1,d+1,e+1] (x::l)=rest [b,c,d,e] l:=PV [b,c,d,e] l 0
def rA(x:HP)(l:List HP)(a b c d e f:Nat):rest [a+1,b+1,c+1,d+1,e+1,f+1] (x::l)=x::rest [a,b,c,d,e,f] l:=congrArg (x:: ·) (Ve [a,b,c,d,e,f] l 0)
def rB(x:HP)(l:List HP)(b c d e f:Nat):rest [0,b+1,c+1,d+1,e+1,f+1] (x::l)=rest [b,c,d,e,f] l:=PV [b,c,d,e,f] l 0
def kk{P:Program}{t:TypeId}{U:Type}[Rep U](h1:(P.info? t).map (·.size)=some (Rep.sz U):=by kernel_rfl)
  (h2:(match P.underlying t with|some (.struct _)=>true|some (.array _ _)=>true|some _=>false|none=>!(Rep.agg U))=Rep.agg U:=by kernel_rfl):Ty P t U:=⟨h1,h2⟩
theorem Zak{ops:Array Oper}{pds:List Pd}:∀(n j:Nat),gc ops pds n j->gc ops pds (n+1) j
 |0,_,h=>h.elim
 | n+1,j,h=>by
  unfold gc at h⊢;cases hg:guardOf ops j with
  |none=>trivial
  |some q=>
   rw[hg]at h;exact⟨Zak n q.1 h.1,h.2⟩
section
variable{P:Program}{B:Bs}{N:Nat}{Z:List (Nat×Value)}{Γ:List HP}{Φ Φ1:List RF}{a:Act}{w:World}{Q:Exit->Act->World->Prop}{ι:Type}{R:ι->Res}{args:List Value}{f:FuncId}
variable{ops:Array Oper}{k d:Nat}{ty:TypeId}{xs:Array Operand}{ts:Array TypeId}{pos:String}{af:Array Edge}
def Cb(c:Cx B N Z Γ Φ a w)(hcon:Con P f args [] Φ1 R)(ro:AvaL Γ Φ w Φ1)(hf:∀(args:Array Value)(w:World),(callFunc f args).run P w= .ok (.enter f args) w)
  (h:∀i fr w',Cx B N ((d,tup (R i).1)::Z) (Γ++(R i).2.1) Φ fr w'->wpFrom P ops Q (k+1) fr w')
  (ho:ops[k]? =some ⟨some d,.call ⟨.value (.func f),xs,ts⟩,ty,pos,af,none⟩:=by rfl)(hd:Nat.blt d N=true:=by rfl)
  (hargs:xs.toList.map (opd Z)=args.map some:=by kernel_rfl):wpFrom P ops Q k a w:=
 Ca [] c hcon (by simp_all[l7]) hf (λi fr w' c=>h i fr w' (by simp_all[l7])) ho hd rfl Zer hargs
def Cg(c:Cx B N Z Γ Φ a w)(hcon:Con P f args [] Φ1 R)(ro:AvaL [] Φ w Φ1)(hf:∀(args:Array Value)(w:World),(callFunc f args).run P w= .ok (.enter f args) w)
  (h:∀i fr w',Cx B N ((d,tup (R i).1)::Z) (Γ++(R i).2.1) (Φ++(R i).2.2) fr w'->wpFrom P ops Q (k+1) fr w')
  (ho:ops[k]? =some ⟨some d,.call ⟨.value (.func f),xs,ts⟩,ty,pos,af,none⟩:=by rfl)(hd:Nat.blt d N=true:=by rfl)
  (hargs:xs.toList.map (opd Z)=args.map some:=by kernel_rfl):wpFrom P ops Q k a w:=
 Cf [] c hcon ro hf (λi fr w' c=>h i fr w' (by simp_all[l7])) ho hd rfl Zer hargs
end
section
variable{P:Program}{B:Bs}{N:Nat}{Z:List (Nat×Value)}{Γ Γ':List HP}{Φ Φ':List RF}{a:Act}{w:World}
def Cx.nf(c:Cx B N Z Γ Φ a w)(h:Γ=Γ':=by first|(simp only[id_eq,Zb1,Zch,l1,l2,l3,l4,l5,l6,l7,r0,r1,r2,r3,r4,r5,r6,r7,r8,r9,rA,rB];rfl)|rfl):Cx B N Z Γ' Φ a w:=h▸c
def Cx.ng(c:Cx B N Z Γ Φ a w)(h:Γ=Γ':=by first|(simp only[id_eq,Zb1,Zch,l1,l2,l3,l4,l5,l6,l7,r0,r1,r2,r3,r4,r5,r6,r7,r8,r9,rA,rB];rfl)|rfl)(h':Φ=Φ':=by first|(simp only[l3,l4,l5,l6];rfl)|rfl):Cx B N Z Γ' Φ' a w:=h▸h'▸c
end
def rE{p:Prop}(h:p:=by(first|obtain rfl:=sj h|cases h);refine wp_ret ?_;(repeat(first|with_reducible refine tr ?_|with_reducible refine br ?_));exact Rt c () [] []):p:=h
def gU{ops:Array Oper}{pds:List Pd}{j:Nat}(g:Nat)(h:gc ops pds ops.size j)(hgd:∃b,guardOf ops j=some (g,b):=by exact⟨_,rfl⟩)(hn:∃n,ops.size=n+1:=by exact⟨_,rfl⟩):gc ops pds ops.size g:=by
 grind[gc,Zak]
def sk{U:Type}{a b:U}(h:some a=some b):b=a:=(Option.some.inj h).symm
def OD{R U:Type}[Flat R](own:R->U->HP)(E:TypeId)(v:Value)(xs:List U):HP:=.ex λrs:List R=>.two (SL E v rs) (.all own rs xs)
section
variable{R U:Type}[Flat R]{own own':R->U->HP}{E:TypeId}{v:Value}{rs:List R}{xs:List U}{w:World}{A:Nat->Prop}
def OD.len(h:(OD own E v xs).ok w A):∃a c,v= .slice a xs.length c:=by
 obtain⟨rs,h⟩:=h;grind[Dz]
def OD.rv[Rep U](ho:Owns own)(h:(OD own E v xs).ok w A):RV w A v xs:=by
 obtain⟨rs,h⟩:=h;grind[Lr]
def OD.nil(own:R->U->HP)(E:TypeId)(w:World):(OD own E (.slice none 0 0) []).ok w Non:=⟨[],SH (.inr ⟨rfl,none,rfl⟩) trivial⟩
omit [Flat R]in
theorem Gv(hi:∀r x A,(own r x).ok w A->(own' r x).ok w A):∀{rs:List R}{xs:List U}{A:Nat->Prop},(HP.all own rs xs).ok w A->(HP.all own' rs xs).ok w A
 |[],[],_,h=>h
 |[],_::_,_,h=>h.elim
 |_::_,[],_,h=>h.elim
 |_::_,_::_,_,h=>RY (λ_ h=>hi _ _ _ h) (λ_ h=>Gv hi h) h
def OD.imp(hi:∀r x A,(own r x).ok w A->(own' r x).ok w A)(h:(OD own E v xs).ok w A):(OD own' E v xs).ok w A:=by
 obtain⟨rs,h⟩:=h;exact⟨rs,RY (λ_ h=>h) (λ_ h=>Gv hi h) h⟩
end
def ownTn(E:TypeId):Nat->Rw.Term->D.Term->HP
 |0,_,_=>.pure False
 |n+1,r,t=>.two (.pure (r.Op=t.Op/\r.W=t.W/\r.N=t.N/\r.Name=t.Name)) (OD (ownTn E n) E r.Kids.v t.Kids)
def ownT(E:TypeId)(r:Rw.Term)(t:D.Term):HP:=.ex λn=>ownTn E n r t
section
variable{E:TypeId}{r:Rw.Term}{t:D.Term}{w:World}{A:Nat->Prop}
theorem LZ{w:World}:∀(n:Nat)(A:Nat->Prop)(r:Rw.Term)(t:D.Term),(ownTn E n r t).ok w A->Rep.ok w A (Flat.enc r) t
 |0,_,_,_,h=>h.elim
 | n +1,A,r,t,h=>by
  obtain⟨e1,e2,e3,e4⟩:=(Uy h:(HP.pure _).ok w A);have h2:RV w A r.Kids.v t.Kids:=by
   obtain⟨rs,h⟩:=VZ h;obtain⟨B,C,h1,h2,h3,h4⟩:=h;have hl:=Ub h2
   have hcss:∀k:Nat->Prop,Css w C (rs.map Flat.enc) t.Kids:=λ_=>⟨by simp[hl],λi cs x hcs hx=>by
    rw[ZbO]at hcs;cases hr:rs[i]? with
    |none=>simp_all
    |some q=>
     rw[hr]at hcs;obtain rfl:=Option.some.inj hcs
     exact LZ n C q x (VY h2 hr hx)⟩
   have h1':RV w A r.Kids.v rs:=RV.sub (SL.rv h1) λk _ hk=>h4 k (.inl hk);have hc':Css w A (rs.map Flat.enc) t.Kids:=⟨(hcss A).1,λi cs x hi hx=>Rep.keep ((hcss A).2 i cs x hi hx) λk _ hk=>⟨rfl,h4 k (.inr hk)⟩⟩;exact Oj h1' hc'
  have:=RV.mk_Term t h2;refine Jt (ρ:=Rw.Term) (U:=D.Term) (q:=r) ?_;show RV w A (.agg #[.int .i64 r.Op,.int .i64 r.W,.int .i64 r.N,Str.val r.Name,r.Kids.v]) t;simp_all
def Ls(E:TypeId):Owns (ownT E):=⟨rfl,rfl,λw A r x⟨n,h⟩=>LZ n A r x h⟩
end
section
variable{P:Program}{B:Bs}{N:Nat}{Z:List (Nat×Value)}{Γ:List HP}{Φ:List RF}{a:Act}{w:World}{Q:Exit->Act->World->Prop}
  {R U:Type}[Flat R]{own:R->U->HP}{E:TypeId}{v:Value}{rs:List R}{xs:List U}
def Cx.fzo[Rep U](ho:Owns own)(i:Nat)(c:Cx B N Z Γ Φ a w)(hi:Γ[i]? =some (OD own E v xs):=by rfl):Cx B N Z (rest [i] Γ) (Φ++[RO v xs]) a w:=by
 obtain⟨h,S,F,h1,h2,h3⟩:=c;have hp:=h2.part [i] (Γ1:=[OD own E v xs]) (by simp[hi]) (by simp);obtain⟨S',F',hM,hs,hr,hfz⟩:=Sep.freeze (L:=rest [i] Γ) hp h1;exact⟨h,S',F',hM,hs,(h3.sub λk _ hk=>hfz k hk).add (OD.rv ho hr)⟩
def Cx.nilo(own:R->U->HP)(E:TypeId)(c:Cx B N Z Γ Φ a w):Cx B N Z (Γ++[OD own E (.slice none 0 0) []]) Φ a w:=c.gam λS h=>ZL (Γ2:=[_]) (h.emp _ (OD.nil own E w))
def Cx.pack{H:HP}(L:List HP)(gs:List Nat)(c:Cx B N Z Γ Φ a w)(hi:∀A,Sep L w A->H.ok w A)(hL:gs.map (λi=>Γ[i]?)=L.map some:=by rfl)(hn:gs.Nodup:=by decide):Cx B N Z (rest gs Γ++[H]) Φ a w:=c.gam λS h=>by
 obtain⟨A,R,h1,h2,h3,h4,h5⟩:=Sep.split (L1:=L) (h.part gs hL hn);grind[ZL,Sep.mk_cons]
end
section
variable{P:Program}{B:Bs}{N:Nat}{Z:List (Nat×Value)}{Γ:List HP}{Φ:List RF}{a:Act}{w:World}{Q:Exit->Act->World->Prop}
  {R U:Type}[Flat R]{own:R->U->HP}{ops:Array Oper}{k d d2:Nat}{t t' ty ty':TypeId}{pos pos':String}{af af':Array Edge}{x y z:Operand}{E:TypeId}{v u:Value}{rs:List R}{xs r:List U}
def Emkd{n:Int}{zx:U}(E:TypeId)(zr:R)(hz0:∀w,(own zr zx).ok w Non)(c:Cx B N Z Γ Φ a w)(hr:mk? n zx=some r)
  (h:∀a' c' fr w',Cx B N ((d,.slice a' r.length c')::Z) (Γ++[SL E (.slice a' r.length c') (List.replicate r.length zr),HP.all own (List.replicate r.length zr) r]) Φ fr w'->wpFrom P ops Q (k+1) fr w')
  (ho:ops[k]? =some ⟨some d,.makeSlice t x y,ty,pos,af,none⟩:=by rfl)(hd:Nat.blt d N=true:=by rfl)(he:ElT P E R:=by refine elT ?_;kernel_rfl)(ht:P.underlying t=some (.slice E):=by kernel_rfl)
  (hz:(P.info? E).map (λi=>i.zero.map λz=>z.cells.toList)=some (some (Flat.enc zr)):=by kernel_rfl)(hx:opd Z x=some (.int .i64 n):=by kernel_rfl)(hy:opd Z y=some (.int .i64 n):=by kernel_rfl):wpFrom P ops Q k a w:=by
 obtain⟨h1,h2⟩:=mk?_raw (z':=zr) hr;refine Emk (r:=List.replicate r.length zr) E c h1 (λa' c' fr w' c=>?_) ho hd he ht hz hx hy;simp only[ZbV]at c;have c:=c.gam (Γ':=Γ++[SL E (.slice a' r.length c') (List.replicate r.length zr),HP.all own (List.replicate r.length zr) r]) λS hs=>by
  have h3:(HP.all own (List.replicate r.length zr) r).ok w' Non:=by
   grind[Fx]
  have:=ZL (Γ:=Γ++[SL E (.slice a' r.length c') (List.replicate r.length zr)]) (Γ2:=[_]) (hs.emp _ h3);grind
 grind
def Esetd{n:Int}{q:R}{e:U}(i j m:Nat)(c:Cx B N Z Γ Φ a w)(hr:set? xs n e=some r)
  (h:∀p fr w',Cx B N ((d,p)::Z) (rest [j,m] (Γ.set i (SL E v (rs.set n.toNat q)))++[HP.all own (rs.set n.toNat q) r]) Φ fr w'->wpFrom P ops Q (k+2) fr w')(hi:Γ[i]? =some (SL E v rs):=by rfl)(hj:Γ[j]? =some (HP.all own rs xs):=by rfl)(hm:Γ[m]? =some (own q e):=by rfl)(hne:[i,j,m].Nodup:=by decide)
  (ho:ops[k]? =some ⟨some d,.indexAddr t x y,ty,pos,af,none⟩:=by rfl)(ho':ops[k+1]? =some ⟨none,.store t' (.tmp d) z,ty',pos',af',none⟩:=by rfl)(hte:t'=E:=by rfl)(hd:Nat.blt d N=true:=by rfl)(hz:z≠ .tmp d:=by simp)
  (he:Ty P E R:=by constructor<;>kernel_rfl)(ht:P.underlying t=some (.slice E):=by kernel_rfl)(hx:opd Z x=some v:=by kernel_rfl)(hy:numOf (opd Z y)=some n:=by kernel_rfl)(hq:opd Z z=some (Rep.val R (Flat.enc q)):=by kernel_rfl):wpFrom P ops Q k a w:=by
 have hl:rs.length=xs.length:=by
  obtain⟨_,S,F,_,hs,_⟩:=id c;exact hs.dlen j hj
 obtain⟨h1,h2,h3⟩:=set?_raw (l':=rs) q hr hl;refine Eset i c h1 (λp fr w' c=>h p fr w' (c.gam λS hs=>?_)) hi ho ho' hte hd hz he ht hx hy hq;simp only[ZdZ,ZbN,Zdl,or_false,not_or,not_false_eq_true,Zer,Zfr]at hne;have hp:=hs.part [j,m] (Γ1:=[HP.all own rs xs,own q e]) (by simp_all) (by simp[hne.2]);grind[ZL,Sep.merge,Aa,Tf]
end
def Sep.sole{X:HP}{w:World}{S:Nat->Prop}(h:Sep [X] w S):X.ok w S:=by
 obtain⟨A,B,h1,_,_,h2,_⟩:=h.cons_ok;exact X.big h1 h2
section
variable{P:Program}{B:Bs}{N:Nat}{Z:List (Nat×Value)}{Γ L:List HP}{Φ:List RF}{a:Act}{w:World}{S:Nat->Prop}{Q:Exit->Act->World->Prop}
  {R U:Type}[Flat R]{own:R->U->HP}{E:TypeId}{v:Value}{n:Int}{r:R}{x y:U}{xs ys:List U}
end
section
variable{P:Program}{B:Bs}{N:Nat}{Z:List (Nat×Value)}{Γ:List HP}{Φ:List RF}{a:Act}{w:World}{Q:Exit->Act->World->Prop}
  {R U:Type}[Flat R]{own:R->U->HP}{ops:Array Oper}{k d d2 d3:Nat}{t t' s' ty ty' ty2:TypeId}{pos pos' pos2:String}{af af' af2:Array Edge}{x y z:Operand}{E:TypeId}{v:Value}{xs:List U}{r:R}{fl off:Nat}{n:Int}
end
def SL.len{U:Type}[Rep U]{E:TypeId}{v:Value}{l:List U}{w:World}{A:Nat->Prop}(h:(SL E v l).ok w A):∃a c,v= .slice a l.length c:=by
 rcases h with⟨go,ho⟩|⟨rfl,a,rfl⟩
 ·exact ho.slice
 ·exact⟨a,0,rfl⟩
def waits(ops:Array Oper)(i:Nat):List Nat:=((ops[i]?).map λo=>(o.after.toList.filter λe=>Region.binds .any e).map (·.on)).getD []
theorem mem_ready{ops:Array Oper}{L:Array Bool}{i:Nat}:i∈Region.ready .any ops L↔i<ops.size/\L.getD i true=false/\∀e∈waits ops i,L.getD e false=true:=by
 unfold Region.ready;rw[ZbS,ZbM];refine and_congr_right λhi=>?_;have ho:ops[i]? =some ops[i]:=Zcy hi;unfold waits;rw[ho];simp only[ZbF,ZbY,Zbt,Zc6];rw[<-Array.all_toList,ZbC];grind
theorem OB{P:Program}{ops:Array Oper}{Q:Exit->Act->World->Prop}{i:Nat}{o:Oper}{K:Act->World->Prop}{a:Act}{w:World}(ho:ops[i]? =some o)(h:wpOp P ops Q i K a w):
  wpOp P ops Q i (λa' w'=>K a' w'/\∀t,o.dst≠some t->a'.eval (.tmp t)=a.eval (.tmp t)) a w:=by
 have hput:∀(b:Act)v t,o.dst≠some t->(b.tmps=a.tmps)->(b.put o.dst v).eval (.tmp t)=a.eval (.tmp t):=by
  cases hd:o.dst with
  |none=>simp_all[Act.put,Act.eval]
  |some d=>
   simp_all[Act.put,Act.eval,Zbs]
 unfold wpOp at*;simp only[ho]at h⊢;split
 ·unfold Oper.wp at*;generalize (execOp a.eval o).run P w=r at*;cases r with
  | ok n w'=>
   cases n<;>simp only[Oper.upon]at h⊢<;>
    first
     |simp_all
     |exact Calls.mono h (λe w'' he=>by cases e<;>first|exact⟨he,λt ht=>hput _ _ t ht rfl⟩|exact he)
     |exact Rows.mono h (λ_ _ he=>⟨he,λt ht=>hput _ _ t ht rfl⟩)
  |halt x w'=>simp_all[Oper.upon]
 simp_all
structure RelM(ops:Array Oper)(mE:Array Bool)(qi:List Nat)(m:Array Bool):Prop where
 size:m.size=ops.size
 same:∀k,k<ops.size->k∉qi->m.getD k false=mE.getD k false
 closed:∀k,k<ops.size->m.getD k false=true->∀e∈waits ops k,m.getD e false=true
theorem Gc{m:Array Bool}{k:Nat}(h:k<m.size):m.getD k true=m.getD k false:=by
 simp_all
def acyc(ops:Array Oper):Bool:=(List.range ops.size).all λi=>(waits ops i).all λe=>Nat.blt e i
theorem QC{ops:Array Oper}(h:acyc ops=true){i e:Nat}(hi:i<ops.size)(he:e∈waits ops i):e<i:=by
 simp_all[acyc,ZbC,ZbM]
theorem CZ{ops:Array Oper}{m:Array Bool}(hac:acyc ops=true)(hs:m.size=ops.size)(hr:Region.ready .any ops m=[]):∀k,k<ops.size->m.getD k false=true:=by
 intro k
 induction k using Nat.strongRecOn with
 | _ k ih=>
  intro hk;cases hm:m.getD k false with
  |true=>rfl
  | false=>
   have:k∈Region.ready .any ops m:=mem_ready.2 ⟨hk,by simp_all,λe he=>by
    grind[QC]⟩
   simp_all
def clo(ops:Array Oper):Nat->List Nat->List Nat
 |0,s=>s
 |n+1,s=>match(s.flatMap (waits ops)).filter (λe=>!memN s e)with
  |[]=>s
  |t=>clo ops n (s++t)
theorem Og{ops:Array Oper}{m:Array Bool}(hac:acyc ops=true)(hc:∀k,k<ops.size->m.getD k false=true->∀e∈waits ops k,m.getD e false=true):∀(n:Nat)(s:List Nat),(∀k∈s,k<ops.size/\m.getD k false=true)->∀k∈clo ops n s,m.getD k false=true
 |0,s,h,k,hk=>(h k hk).2
 | n+1,s,h,k,hk=>by
  unfold clo at hk;split at hk
  ·simp_all
  ·refine Og hac hc n _ (λx hx=> ?_) k hk;rcases Zb7.1 hx with hx|hx
   ·exact h x hx
   ·obtain⟨y,hy,hx⟩:=List.mem_flatMap.1 (ZbS.1 hx).1;obtain⟨h1,h2⟩:=h y hy;have:=QC hac h1 hx;grind
abbrev Quiets:=List (Nat×Nat×Value)
def slots(qs:Quiets)(l:List Nat):List (Nat×Value):=(qs.filter λq=>memN l q.1).map (·.2)
section
variable(P:Program)(ops:Array Oper)(Q:Exit->Act->World->Prop)(B:Bs)(N:Nat)
def QN(Z:List (Nat×Value))(Γ:List HP)(Φ:List RF)(mE:Array Bool)(qs:Quiets):Prop:=
 ∀f a w m,Cx B N Z Γ Φ a w->RelM ops mE (qs.map (·.1)) m->(∀q∈qs,m.getD q.1 false=true->a.eval (.tmp q.2.1)=q.2.2)->m.toList.count false<=f->wpAny P .any ops Q f m a w
def nextB(mE:Array Bool)(qs:Quiets)(i:Nat)(mE':Array Bool)(qs':Quiets):Bool:=
 (mE'.size==ops.size)&&((List.range ops.size).all λk=>memN (qs'.map (·.1)) k||(Nat.beq k i||memN (clo ops ops.size (waits ops i)) k)&&mE'.getD k false|| !Nat.beq k i&& !memN (qs.map (·.1)) k&&(mE'.getD k false==mE.getD k false))&&(match ops[i]? with|some o=>qs'.all λq=>o.dst !=some q.2.1|none=>false)
def Nxt(mE:Array Bool)(qs:Quiets)(i:Nat)(a:Act)(w:World):Prop:=
 ∃σ' Γ' Φ' mE' qs',Cx B N σ' Γ' Φ' a w/\QN P ops Q B N σ' Γ' Φ' mE' qs'/\nextB ops mE qs i mE' qs'=true/\(qs'.filter λq=>memN (qs.map (·.1)) q.1)=(qs.filter λq=>memN (qs'.map (·.1)) q.1)/\(qs'.all λq=>memN (qs.map (·.1)) q.1||memN (clo ops ops.size (waits ops q.1)) i)=true
end
theorem WF{l:List Nat}{k:Nat}:memN l k=true↔k∈l:=by
 induction l with
 |nil=>exact⟨(λh=>(by cases h)),(λh=>(by cases h))⟩
 |cons x l ih=>
  rw[memN,Zcr,ih,ZbN];exact or_congr ⟨λh=>(Zd1 h).symm,λh=>by simp_all⟩ Iff.rfl
theorem II{β γ:Type}{f:β->γ}:∀{l:List β},(l.map f).Nodup->∀{x y:β},x∈l->y∈l->f x=f y->x=y
 | z::l,h,x,y,hx,hy,e=>by
  rw[Zb1,ZdZ]at h;obtain⟨h1,h2⟩:=h;rcases ZbN.1 hx with ex|hx1
  ·grind
  ·rcases ZbN.1 hy with ey|hy1
   ·simp_all
   ·exact II h2 hx1 hy1 e
theorem cntL:∀{l:List Bool}{i:Nat},l[i]? =some false->(l.set i true).count false+1=l.count false
 |[],_,h=>by simp at h
 |x::l,0,h=>by
  simp_all
 |x::l,i+1,h=>by
  grind
theorem cntS{m:Array Bool}{i:Nat}(hi:i<m.size)(h:m.getD i false=false):(m.setIfInBounds i true).toList.count false+1=m.toList.count false:=by
 simp_all[Zd3,cntL,Zbs,Zcy]
section
variable{P:Program}{ops:Array Oper}{Q:Exit->Act->World->Prop}{B:Bs}{N:Nat}{Z:List (Nat×Value)}{Γ:List HP}{Φ:List RF}{mE:Array Bool}{qs:Quiets}
theorem Hm{Z:List (Nat×Value)}{a:Act}(h:FrS N Z a):∀(l:List (Nat×Value)),(∀p∈l,a.eval (.tmp p.1)=p.2)->FrS N (l++Z) a
 |[],_=>h
 |p::l,hl=>(Hm h l λq hq=>hl q (Zca _ hq)).cons (hl p Zcd)
def Cx.adds{a:Act}{w:World}(c:Cx B N Z Γ Φ a w)(l:List (Nat×Value))(h:∀p∈l,a.eval (.tmp p.1)=p.2):Cx B N (l++Z) Γ Φ a w:=⟨Hm c.fr l h,c.me⟩
theorem qnode(rs:List Nat)(hac:acyc ops=true)(hms:mE.size=ops.size)
  (hqd:∀q∈qs,∃o,ops[q.1]? =some o/\o.dst=some q.2.1)(hnd:(qs.map (·.1)).Nodup)(hnd2:(qs.map (·.2.1)).Nodup)(hσ:∀q∈qs,Z.lookup q.2.1=none)
  (hqe:∀q∈qs,∀a w,Cx B N (slots qs (waits ops q.1)++Z) Γ Φ a w->wpOp P ops Q q.1 (λa' w'=>Cx B N ((q.2.1,q.2.2)::(slots qs (waits ops q.1)++Z)) Γ Φ a' w') a w)
  (hrs:∀i,i<ops.size->i∉qs.map (·.1)->mE.getD i false=false->(∀e∈waits ops i,e∈qs.map (·.1)\/mE.getD e false=true)->i∈rs)
  (hev:∀i∈rs,∀a w,Cx B N (slots qs (clo ops ops.size (waits ops i))++Z) Γ Φ a w->wpOp P ops Q i (Nxt P ops Q B N mE qs i) a w)
  (hend:(∃k,k<ops.size/\k∉qs.map (·.1)/\mE.getD k false=false)\/∀a w,Cx B N (qs.map (·.2)++Z) Γ Φ a w->Q .normal a w):QN P ops Q B N Z Γ Φ mE qs:=by
 have hfin:∀a w m,Cx B N Z Γ Φ a w->RelM ops mE (qs.map (·.1)) m->(∀q∈qs,m.getD q.1 false=true->a.eval (.tmp q.2.1)=q.2.2)->(∀k,k<ops.size->m.getD k false=true)->Q .normal a w:=by
  intro a w m c hr hq hall;rcases hend with⟨k,h1,h2,h3⟩|h
  ·have:=hr.same k h1 h2;simp_all
  ·refine h a w (c.adds _ λp hp=> ?_);grind
 intro f
 induction f with
 | zero=>
  intro a w m c hr hq hf;have hall:∀k,k<ops.size->m.getD k false=true:=λk hk=>by
   cases hm:m.getD k false with
   |true=>rfl
   |false=>
    have h1:k<m.size:=by rw[hr.size];exact hk
    grind[cntS]
  refine⟨List.eq_nil_iff_forall_not_mem.2 λi hi=>?_,hfin a w m c hr hq hall⟩;grind[mem_ready,Gc]
 | succ f ih=>
  intro a w m c hr hq hf;refine⟨λhn=>hfin a w m c hr hq (CZ hac hr.size hn),λi hi=>?_⟩;obtain⟨h1,h2,h3⟩:=mem_ready.1 hi;have him:i<m.size:=by rw[hr.size];exact h1
  rw[Gc him]at h2;have hcnt:=cntS him h2;have hget:∀k,k≠i->(m.setIfInBounds i true).getD k false=m.getD k false:=λk hk=>by
   simp[Zbs,Array.getElem?_setIfInBounds_ne (Ne.symm hk)]
  have hgeti:(m.setIfInBounds i true).getD i false=true:=by
   simp[Zbs,him]
  have hclosed:∀k,k<ops.size->(m.setIfInBounds i true).getD k false=true->∀e∈waits ops k,(m.setIfInBounds i true).getD e false=true:=λk hk hkm e he=>by
   by_cases ei:e=i
   ·rw[ei];exact hgeti
   ·rw[hget e ei];by_cases ki:k=i
    ·rw[ki]at he;exact h3 e he
    ·rw[hget k ki]at hkm;exact hr.closed k hk hkm e he
  obtain⟨o,ho⟩:∃o,ops[i]? =some o:=⟨ops[i],Zcy h1⟩;by_cases hiq:i∈qs.map (·.1)
  ·obtain⟨q,hqm,rfl⟩:=ZcB.1 hiq;have c1:Cx B N (slots qs (waits ops q.1)++Z) Γ Φ a w:=c.adds _ λp hp=>by
    unfold slots at hp;obtain⟨q',hq',rfl⟩:=ZcB.1 hp;obtain⟨g1,g2⟩:=ZbS.1 hq';exact hq q' g1 (h3 _ (WF.1 g2))
   refine wpOp_mono (λa' w'⟨c2,hfr⟩=>?_) (OB ho (hqe q hqm a w c1));obtain⟨o',ho',hd⟩:=hqd q hqm;rw[ho]at ho';cases ho';refine ih a' w' _ ⟨⟨c2.fr.defers,c2.fr.size,λt v hv=>?_⟩,c2.me⟩ ⟨by simp[hr.size],λk hk hkq=>?_,hclosed⟩ (λp hp hpm=>?_) (by omega)
   ·have ht:t≠q.2.1:=λe=>by rw[e,hσ q hqm]at hv;cases hv
    rw[hfr t (by rw[hd];intro e;exact ht (Option.some.inj e).symm)];exact c.fr.get t v hv
   ·rw[hget k (λe=>hkq (by rw[e];exact hiq))];exact hr.same k hk hkq
   ·by_cases e:p.1=q.1
    ·have:p=q:=II hnd hp hqm e;subst this;exact c2.fr.get _ _ (by simp)
    ·rw[hget _ e]at hpm;have hne:p.2.1≠q.2.1:=λe2=>e (by rw[II hnd2 hp hqm e2]);rw[hfr p.2.1 (by rw[hd];intro e3;exact hne (Option.some.inj e3).symm)];exact hq p hp hpm
  ·have hmE:mE.getD i false=false:=by rw[<-hr.same i h1 hiq];exact h2
   have hin:=hrs i h1 hiq hmE λe he=>by
    by_cases hq':e∈qs.map (·.1)
    ·exact .inl hq'
    ·have:=QC hac h1 he;exact .inr (by rw[<-hr.same e (by omega) hq'];exact h3 e he)
   have hclo:∀k∈clo ops ops.size (waits ops i),m.getD k false=true:=Og hac hr.closed _ _ λk hk=>⟨by have:=QC hac h1 hk;omega,h3 k hk⟩;have c1:Cx B N (slots qs (clo ops ops.size (waits ops i))++Z) Γ Φ a w:=c.adds _ λp hp=>by
    unfold slots at hp;obtain⟨q',hq',rfl⟩:=ZcB.1 hp;obtain⟨g1,g2⟩:=ZbS.1 hq';exact hq q' g1 (hclo _ (WF.1 g2))
   refine wpOp_mono (λa' w'⟨⟨σ',Γ',Φ',mE',qs',c2,hN,hb,hdl,hnw⟩,hfr⟩=>?_) (OB ho (hev i hin a w c1));unfold nextB at hb;simp only[ho,Zbt,ZcF]at hb;obtain⟨⟨b1,b2⟩,b3⟩:=hb;have hsub:∀p∈qs',p∈qs\/memN (clo ops ops.size (waits ops p.1)) i=true:=λp hp=>by
    have h:=ZbC.1 hnw p hp;rw[Zcr]at h;refine h.imp (λh=>?_) id;have:p∈qs'.filter λq=>memN (qs.map (·.1)) q.1:=ZbS.2 ⟨hp,h⟩;rw[hdl]at this;exact(ZbS.1 this).1
   refine hN f a' w' _ c2 ⟨by simp[hr.size],λk hk hkq=>?_,hclosed⟩ (λp hp hpm=>?_) (by omega)
   ·rw[ZbC]at b2;have:=b2 k (ZbM.2 hk);have hkq':memN (qs'.map (·.1)) k=false:=by
     cases h:memN (qs'.map (·.1)) k with
     |false=>rfl
     |true=>exact absurd (WF.1 h) hkq
    rw[hkq',ZbL,Zcr]at this;rcases this with this|this
    ·rw[Zbt,Zcr]at this;rw[this.2];by_cases ki:k=i
     ·rw[ki];exact hgeti
     ·rw[hget k ki];rcases this.1 with h|h
      ·exact absurd (Zd1 h) ki
      ·exact hclo k (WF.1 h)
    ·rw[Zbt,Zbt,ZcF]at this;have hkn:k∉qs.map (·.1):=λh=>by rw[WF.2 h]at this;simp at this
     by_cases ki:k=i
     ·rw[ki]at this;simp at this
     ·rw[hget k ki,this.2];exact hr.same k hk hkn
   ·have hne:o.dst≠some p.2.1:=by
     rw[ZbC]at b3;simpa using b3 p hp
    rw[hfr _ hne];by_cases ki:p.1=i
    ·rcases hsub p hp with h|h
     ·exact absurd (ZcB.2 ⟨p,h,ki⟩) hiq
     ·rw[ki]at h;rw[hclo i (WF.1 h)]at h2;cases h2
    ·rw [hget _ ki]at hpm
     rcases hsub p hp with h|h
     ·exact hq p h hpm
     ·have hlt:p.1<ops.size:=by
       cases hlt:decide (p.1<ops.size)with
       |true=>exact of_decide_eq_true hlt
       |false=>
        have:¬p.1<m.size:=by rw[hr.size];exact of_decide_eq_false hlt
        rw[Zbs,ZcH (by omega)]at hpm;cases hpm
      have:=Og hac hr.closed ops.size (waits ops p.1) (λk hk=>⟨by have:=QC hac hlt hk;omega,hr.closed p.1 hlt hpm k hk⟩) i (WF.1 h);rw[this]at h2;cases h2
def nodeB(ops:Array Oper)(Z:List (Nat×Value))(mE:Array Bool)(qs:Quiets)(rs:List Nat):Bool:=
 acyc ops&&(mE.size==ops.size)&&(qs.all λq=>match ops[q.1]? with|some o=>o.dst==some q.2.1|none=>false)&&ndN (qs.map (·.1))&&ndN (qs.map (·.2.1))&&(qs.all λq=>!memN (Z.map (·.1)) q.2.1)&&
  (List.range ops.size).all λi=>memN (qs.map (·.1)) i||mE.getD i false|| !((waits ops i).all λe=>memN (qs.map (·.1)) e||mE.getD e false)||memN rs i
theorem qnode'(rs:List Nat)(hb:nodeB ops Z mE qs rs=true)
  (hqe:AllP (λq=>∀a w,Cx B N (slots qs (waits ops q.1)++Z) Γ Φ a w->wpOp P ops Q q.1 (λa' w'=>Cx B N ((q.2.1,q.2.2)::(slots qs (waits ops q.1)++Z)) Γ Φ a' w') a w) qs)
  (hev:AllP (λi=>∀a w,Cx B N (slots qs (clo ops ops.size (waits ops i))++Z) Γ Φ a w->wpOp P ops Q i (Nxt P ops Q B N mE qs i) a w) rs)
  (hend:(∃k,k<ops.size/\k∉qs.map (·.1)/\mE.getD k false=false)\/∀a w,Cx B N (qs.map (·.2)++Z) Γ Φ a w->Q .normal a w):QN P ops Q B N Z Γ Φ mE qs:=by
 unfold nodeB at hb;simp only[Zbt,ZcF]at hb;obtain⟨⟨⟨⟨⟨⟨b1,b2⟩,b3⟩,b4⟩,b5⟩,b6⟩,b7⟩:=hb;refine qnode rs b1 b2 (λq hq=>?_) (SQ b4) (SQ b5) (λq hq=>?_) (λq hq=>hqe.mem hq) (λi h1 h2 h3 h4=>?_) (λi hi=>hev.mem hi) hend
 ·grind
 ·cases h:Z.lookup q.2.1 with
  |none=>rfl
  |some v=>
   grind[WF]
 grind[List.all_eq_true,memN,absurd,WF,waits]
def qn(rs:List Nat)(hqe:AllP (λq=>∀a w,Cx B N (slots qs (waits ops q.1)++Z) Γ Φ a w->wpOp P ops Q q.1 (λa' w'=>Cx B N ((q.2.1,q.2.2)::(slots qs (waits ops q.1)++Z)) Γ Φ a' w') a w) qs)
  (hev:AllP (λi=>∀a w,Cx B N (slots qs (clo ops ops.size (waits ops i))++Z) Γ Φ a w->wpOp P ops Q i (Nxt P ops Q B N mE qs i) a w) rs)(hb:nodeB ops Z mE qs rs=true:=by kernel_rfl)
  (hk:((List.range ops.size).any λk=>!memN (qs.map (·.1)) k&& !mE.getD k false)=true:=by kernel_rfl):QN P ops Q B N Z Γ Φ mE qs:=qnode' rs hb hqe hev (.inl (by
 grind[WF]))
def qnE(hqe:AllP (λq=>∀a w,Cx B N (slots qs (waits ops q.1)++Z) Γ Φ a w->wpOp P ops Q q.1 (λa' w'=>Cx B N ((q.2.1,q.2.2)::(slots qs (waits ops q.1)++Z)) Γ Φ a' w') a w) qs)
  (hend:∀a w,Cx B N (qs.map (·.2)++Z) Γ Φ a w->Q .normal a w)(hb:nodeB ops Z mE qs []=true:=by kernel_rfl):QN P ops Q B N Z Γ Φ mE qs:=qnode' [] hb hqe trivial (.inr hend)
def Dq{ι:Type}{L:Array Bool}{fuel0:Nat}{a0:Act}{w0:World}(J:ι->Lpt)(mE:Array Bool)(qs:ι->Quiets)(c:Cx B N Z Γ Φ a0 w0)(hx:∀i,QN P ops Q B N (J i).1 ((J i).2.1 Γ) (Φ++(J i).2.2) mE (qs i))(k:(∀i,QN P ops Q B N (J i).1 ((J i).2.1 Γ) (Φ++(J i).2.2) mE (qs i))->wpAny P .any ops Q fuel0 L a0 w0):wpAny P .any ops Q fuel0 L a0 w0:=k hx
def nQ{ι:Type}{J:ι->Lpt}{mE':Array Bool}{qs':ι->Quiets}{Γ0:List HP}{Φ0:List RF}{j:Nat}{a:Act}{w:World}(h:∀i,QN P ops Q B N (J i).1 ((J i).2.1 Γ0) (Φ0++(J i).2.2) mE' (qs' i))(i:ι)(c:CxL B N Γ0 Φ0 (J i) a w)(hb:nextB ops mE qs j mE' (qs' i)=true:=by kernel_rfl)
  (hq:((qs' i).filter λq=>memN (qs.map (·.1)) q.1)=(qs.filter λq=>memN ((qs' i).map (·.1)) q.1):=by kernel_rfl)(hw:((qs' i).all λq=>memN (qs.map (·.1)) q.1||memN (clo ops ops.size (waits ops q.1)) j)=true:=by kernel_rfl):Nxt P ops Q B N mE qs j a w:=⟨_,_,_,_,_,c,h i,hb,hq,hw⟩
def q0{a:Act}{w:World}(c:Cx B N Z Γ Φ a w)(h:QN P ops Q B N Z Γ Φ (Array.replicate ops.size false) qs):wpAny P .any ops Q ops.size (Array.replicate ops.size false) a w:=by
 have hf:∀k,(Array.replicate ops.size false).getD k false=false:=λk=>by
  rw[Zbs,ZcK];split<;>rfl
 refine h _ a w _ c ⟨by simp,λ_ _ _=>rfl,λk _ hk=>?_⟩ (λq _ hq=>?_) (by simp)
 all_goals grind
def qP{S:List (Nat×Value)}{i d:Nat}{v:Value}{o:Oper}(hs:List (Nat×Nat))(ho:ops[i]? =some o:=by rfl)(hg:o.guard=none:=by rfl)
  (hk:(seqB P N (bxsOf Γ Φ) hs 0 [o] S).map (λr=>r.2.map (·.1))=some (((seqB P N (bxsOf Γ Φ) hs 0 [o] S).map (λr=>r.2.map (·.2))).getD []):=by kernel_rfl)(hσ:((seqB P N (bxsOf Γ Φ) hs 0 [o] S).getD ([],[])).1=(d,v)::S:=by kernel_rfl)(a:Act)(w:World)(c:Cx B N S Γ Φ a w):wpOp P ops Q i (λa' w'=>Cx B N ((d,v)::S) Γ Φ a' w') a w:=
 Yp o ho hg (Fp (ops:=#[o]) (k:=0) hs 1 c (λfr c=>E0 (by simp_all) rfl) hk)
def qV{S:List (Nat×Value)}{i d:Nat}{v:Value}{o:Oper}(ho:ops[i]? =some o)(hg:o.guard=none)(hd:o.dst=some d)(hdN:Nat.blt d N=true){a:Act}{w:World}(c:Cx B N S Γ Φ a w)(hv:Does P o a w λv' w'=>v'=v/\w'=w):wpOp P ops Q i (λa' w'=>Cx B N ((d,v)::S) Γ Φ a' w') a w:=
 Yp o ho hg (QK (ops:=#[o]) (k:=0) (o:=o) rfl hg hv λv' w' hw=>by
  obtain⟨rfl,rfl⟩:=hw;rw[hd]
  exact c.to (c.fr.put (ZbZ.mp hdN) _))
section
variable{S:List (Nat×Value)}{i d:Nat}{dst:Option Tmp}{t ty:TypeId}{pos:String}{af:Array Edge}{x y:Operand}{U:Type}[Rep U]{e:TypeId}{v u:Value}{n:Int}{p:Addr}
def qI(k:Nat)(hk:Φ[k]? =some (EA U v n p u):=by rfl)(ho:ops[i]? =some ⟨some d,.indexAddr t x y,ty,pos,af,none⟩:=by rfl)(hdN:Nat.blt d N=true:=by rfl)(ht:P.underlying t=some (.slice e):=by rfl)(he:Ty P e U:=by constructor<;>kernel_rfl)(hx:opd S x=some v:=by kernel_rfl)(hy:numOf (opd S y)=some n:=by kernel_rfl)
  (a:Act)(w:World)(c:Cx B N S Γ Φ a w):wpOp P ops Q i (λa' w'=>Cx B N ((d,.pointer (some p))::S) Γ Φ a' w') a w:=by
 obtain⟨F,⟨ad,len,cap,rfl,rfl,hn,hlt⟩,_⟩:=c.use (Ava.f k hk);obtain⟨kd,hy⟩:=Yk hy;have h1:=Zg c.fr hx;have h2:=Zg c.fr hy;refine qV ho rfl rfl hdN c (Zi (v:=.pointer (some (ad.add (n.toNat*Rep.sz U)))) (w':=w) ?_ ⟨rfl,rfl⟩);simp[execOp,Instr.indexAt,h1,h2,asIntOf,run_underlying ht,hn,hlt,he.sizeOf]
def qL(k:Nat)(hk:Φ[k]? =some (EA U v n p u):=by rfl)(ho:ops[i]? =some ⟨some d,.load t x,ty,pos,af,none⟩:=by rfl)(hdN:Nat.blt d N=true:=by rfl)(ht:Ty P t U:=by constructor<;>kernel_rfl)(hx:opd S x=some (.pointer (some p)):=by kernel_rfl)
  (a:Act)(w:World)(c:Cx B N S Γ Φ a w):wpOp P ops Q i (λa' w'=>Cx B N ((d,u)::S) Γ Φ a' w') a w:=by
 obtain⟨F,_,cs,rfl,hl,hc,_⟩:=c.use (Ava.f k hk);have h1:=Zg c.fr hx;refine qV ho rfl rfl hdN c (Zi (v:=Rep.val U cs) (w':=w) ?_ ⟨rfl,rfl⟩);simp[execOp,Instr.loadAt,h1,Instr.sureAddr,Xa ht hl hc]
end
end
section
def EW(w:World)(U:Type)[Rep U](v:Value)(n:Int)(p:Addr)(u:Value):Prop:=∃F,(EA U v n p u).ok w F
variable{ρ U:Type}[Flat ρ][Rep U]
variable{P:Program}{B:Bs}{N:Nat}{Z:List (Nat×Value)}{Γ:List HP}{Φ:List RF}{a:Act}{w:World}{K:Act->World->Prop}{Q:Exit->Act->World->Prop}{ops:Array Oper}{pds:List Pd}{j:Nat}
def Cx.elo[RawOf ρ U]{E:TypeId}{v:Value}{rs:List ρ}{xs:List U}{n:Int}{x:U}(i k:Nat)(c:Cx B N Z Γ Φ a w)(hx:get? xs n=some x)(hi:Γ[i]? =some (SL E v rs):=by rfl)(hk:Φ[k]? =some (CS rs xs):=by rfl):∃p u,EW w U v n p u/\Cx B N Z Γ (Φ++[RO u x]) a w:=by
 obtain⟨hF,S,F,h1,h2,h3⟩:=c;have hc:=h3.get hk;obtain⟨q',g1,_⟩:=Gj hc (get?_at hx);have hz':get? rs n=some q':=by simp_all[get?,Zbq,get?_nn]
 have hr:=(h2.rv i hi);obtain⟨b,cap,rfl,e1,e2,e3⟩:=RV.slice hr;have hn:=get?_nn hx;have hat:=get?_at hz';have hlt:n.toNat<rs.length:=(Zbu.1 hat).1;obtain⟨ad,rfl,hFb,hel⟩:=e3 (by grind);obtain⟨cs,hok,hcl⟩:=Vt hel hat;have hcl:Cells w (ad.add (n.toNat*Rep.sz ρ)) cs:=by simp_all
 have ecs:cs=Flat.enc q':=Flat.iff.1 hok;have hok':Rep.ok w F (Flat.enc q') x:=hc.2 _ _ x (by simp_all) (get?_at hx);have hne:cs≠[]:=by
  have h4:=Rep.len hok;grind[Rep.pos]
 have hb:(ad.add (n.toNat*Rep.sz ρ)).block<w.heap.size:=hcl.lt hne;subst ecs;rw[RawOf.sz (ρ:=ρ) (U:=U)]at hcl hb;exact⟨ad.add (n.toNat*Rep.sz U),Rep.val U (Flat.enc q'),⟨λ_=>True,⟨ad,_,_,rfl,rfl,hn,by omega⟩,_,rfl,Rep.len hok',hcl,trivial,hb⟩,hF,S,F,h1,h2,h3.add (R:=RO _ x) ⟨_,hok',rfl⟩⟩
def NieW{draw:Bool}{ms:List Nat}{dst:Option Tmp}{t ty:TypeId}{pos:String}{af:Array Edge}{g:Option (Nat×Bool)}{x y:Operand}{U:Type}[Rep U]{e:TypeId}{v u:Value}{n:Int}{p:Addr}(c:Cx B N Z Γ Φ a w)(hk:EW w U v n p u)
  (ho:ops[j]? =some ⟨dst,.indexAddr t x y,ty,pos,af,g⟩:=by rfl)(ht:P.underlying t=some (.slice e):=by rfl)(he:Ty P e U:=by constructor<;>kernel_rfl)(hx:envP ops Z pds j x=some v:=by kernel_rfl)(hy:numOf (envP ops Z pds j y)=some n:=by kernel_rfl)(hG:Good ops pds [])(hpd:pds.getD j .any= .eq (.pointer (some p))):NPB P draw ms ops pds a w Q j:=by
 obtain⟨F,⟨ad,len,cap,rfl,rfl,hn,hlt⟩,_⟩:=hk;obtain⟨kd,hy⟩:=Yk hy;refine TI _ ho hG c.fr λa' w' _ hg hv _=>?_;have h1:=hv x _ (by simp[Op.operands]) hx;have h2:=hv y _ (by simp[Op.operands]) hy;refine Zi (v:=.pointer (some (ad.add (n.toNat*Rep.sz U)))) (w':=w') ?_ (by rw[hpd];exact⟨rfl,Chg.refl _ _⟩);simp[execOp,Instr.indexAt,h1,h2,asIntOf,run_underlying ht,hn,hlt,he.sizeOf]
def NleW{draw:Bool}{ms:List Nat}{dst:Option Tmp}{t ty:TypeId}{pos:String}{af:Array Edge}{g:Option (Nat×Bool)}{x:Operand}{U:Type}[Rep U]{v u:Value}{n:Int}{p:Addr}(c:Cx B N Z Γ Φ a w)(hk:EW w U v n p u)
  (ho:ops[j]? =some ⟨dst,.load t x,ty,pos,af,g⟩:=by rfl)(ht:Ty P t U:=by constructor<;>kernel_rfl)(hx:envP ops Z pds j x=some (.pointer (some p)):=by kernel_rfl)(hG:Good ops pds [])(hpd:pds.getD j .any= .eq u):NPB P draw ms ops pds a w Q j:=by
 obtain⟨F,_,cs,rfl,hl,hc,_⟩:=hk;refine TI _ ho hG c.fr λa' w' hC hg hv _=>?_;have h1:=hv x _ (by simp[Op.operands]) hx;refine Zi (v:=Rep.val U cs) (w':=w') ?_ (by rw[hpd];exact⟨rfl,Chg.refl _ _⟩);simp[execOp,Instr.loadAt,h1,Instr.sureAddr,Xa ht hl (hc.ext hC)]
end
section
def EP(U:Type)[Rep U](v:Value)(n:Int)(p:Addr):Prop:=∃ad len cap,v= .slice (some ad) len cap/\p=ad.add (n.toNat*Rep.sz U)/\0<=n/\n<((len:Nat):Int)
variable{ρ U:Type}[Flat ρ][Rep U]
variable{P:Program}{B:Bs}{N:Nat}{Z:List (Nat×Value)}{Γ:List HP}{Φ:List RF}{a:Act}{w:World}{Q:Exit->Act->World->Prop}{ops:Array Oper}{pds:List Pd}{j k d i:Nat}{t t' ty:TypeId}{x y z:Operand}{pos:String}{af:Array Edge}{v:Value}{n:Int}{p:Addr}{E:TypeId}
def EP.one{p':Addr}(h:EP U v n p)(h':EP U v n p'):p=p':=by
 obtain⟨ad,len,cap,rfl,rfl,_⟩:=h;obtain⟨ad',len',cap',e,rfl,_⟩:=h';simp_all
def qIo{S:List (Nat×Value)}(h:EP U v n p)(ho:ops[i]? =some ⟨some d,.indexAddr t x y,ty,pos,af,none⟩:=by rfl)(hdN:Nat.blt d N=true:=by rfl)(ht:P.underlying t=some (.slice E):=by rfl)(he:Ty P E U:=by constructor<;>kernel_rfl)(hx:opd S x=some v:=by kernel_rfl)(hy:numOf (opd S y)=some n:=by kernel_rfl)
  (a:Act)(w:World)(c:Cx B N S Γ Φ a w):wpOp P ops Q i (λa' w'=>Cx B N ((d,.pointer (some p))::S) Γ Φ a' w') a w:=by
 obtain⟨ad,len,cap,rfl,rfl,hn,hlt⟩:=h;obtain⟨kd,hy⟩:=Yk hy;have h1:=Zg c.fr hx;have h2:=Zg c.fr hy;refine qV ho rfl rfl hdN c (Zi (v:=.pointer (some (ad.add (n.toNat*Rep.sz U)))) (w':=w) ?_ ⟨rfl,rfl⟩);simp[execOp,Instr.indexAt,h1,h2,asIntOf,run_underlying ht,hn,hlt,he.sizeOf]
end
section
variable{P:Program}{B:Bs}{N:Nat}{Z:List (Nat×Value)}{Γ:List HP}{Φ:List RF}{a:Act}{w:World}{Q:Exit->Act->World->Prop}
  {draw:Bool}{ms:List Nat}{ops:Array Oper}{pds:List Pd}{j:Nat}{dst:Option Tmp}{g:Option (Nat×Bool)}{t ty:TypeId}{y:Operand}{pos:String}{af:Array Edge}
end
instance{U:Type}[Rep U]:RawOf Hd (List U)where
 sz:=rfl
 agg:=rfl
 ex:=λ{w F cs x}h=>by
  have h1:RV w F (Rep.val (List U) cs) x:=⟨cs,h,rfl⟩;obtain⟨a,c,e,_⟩:=RV.slice h1;have hl:=Rep.len h
  match cs,hl with
  |[u],_=>exact⟨⟨a,x.length,c⟩,by rw[show u= .slice a x.length c from e];rfl⟩
def mapSV(P:Program)(k e:TypeId){ρ:Type}[Flat ρ](z0:ρ)(hk:P.underlying k=some .string)(hzero:∀w,(zeroValue e).run P w= .ok (Rep.val ρ (Flat.enc z0)) w):MapT P k e Str ρ where
 R v:=some (.held v,[])
 fit:=fitS
 lit x:=.string x.bytes
 dv y:=.held (Rep.val ρ (Flat.enc y))
 zero:=z0
 efit:=λ_=>true
 zfit:=rfl
 keyed:=Maps.string_keyed hk
 key x h:=by
  have h:x.bytes.length<=9223372036854775807:=of_decide_eq_true h;have h2:(Rep.val Str (Flat.enc x))= .string ⟨x.bytes.toArray⟩:=rfl;unfold keyOf;rw[hk,h2];simp only[mapKey,hk];have h3:(ByteArray.mk x.bytes.toArray).size<=maxLen:=by show x.bytes.toArray.size<=_;simp_all[maxLen]
  simp[h3]
 inj x y _ _ h:=by
  cases x;simp_all
 elem y _:=rfl
 back v y ps h:=by
  simp_all
 hz:=hzero
theorem BM{P:Program}{e:TypeId}(h:(P.info? e).map (·.zero)=some (some (.slice none 0 0)))(w:World):(zeroValue e).run P w= .ok (Rep.val Hd (Flat.enc (⟨none,0,0⟩:Hd))) w:=by
 show(zeroValue e).run P w= .ok (.slice none 0 0) w;cases hi:P.info? e with
 |none=>simp_all
 |some i=>
  simp_all[ZbF,Option.some.injEq,zeroValue,typeInfo]
section
variable{P:Program}{K V:TypeId}{κ ρ U:Type}[Flat κ][Flat ρ][Rep U][RawOf ρ U][DecidableEq κ]
def CM(w:World)(F:Nat->Prop)(rs:List (κ×ρ))(xs:List (κ×U)):Prop:=rs.map (·.1)=xs.map (·.1)/\Css w F ((rs.map (·.2)).map Flat.enc) (xs.map (·.2))
def MV(T:MapT P K V κ ρ)(v:Value)(m:Option (List (κ×U))):RF where
 ok w F:=∃m':Option (List (κ×ρ)),(OM T v m').ok w F/\CM w F (m'.getD []) (m.getD [])
 sub:=λ⟨m',h1,h2,h3⟩hs=>⟨m',(OM T v m').mono h1 hs,h2,h3.keep λk hk hf=>⟨rfl,hs k hk hf⟩⟩
 chg:=λ⟨m',h1,h2,h3⟩hc ht=>⟨m',(OM T v m').keep h1 hc ht,h2,h3.keep λk hk hf=>⟨hc.block k hk (ht k hf),hf⟩⟩
def MD(T:MapT P K V κ ρ)(own:ρ->U->HP)(b:Nat)(xs:List (κ×U)):HP:=.ex λrs:List (κ×ρ)=>.two (MP T b rs) (.two (.pure (rs.map (·.1)=xs.map (·.1))) (.all own (rs.map (·.2)) (xs.map (·.2))))
omit [RawOf ρ U]in
theorem BP{own:ρ->U->HP}(ho:Owns own){w:World}{A:Nat->Prop}{rs:List ρ}{xs:List U}(h:(HP.all own rs xs).ok w A):Css w A (rs.map Flat.enc) xs:=by
 have hl:=Ub h;refine⟨by simp[hl],λi cs x hcs hx=>?_⟩;rw[ZbO]at hcs;cases hr:rs[i]? with
 |none=>rw[hr]at hcs;cases hcs
 |some q=>
  rw[hr]at hcs;obtain rfl:=Option.some.inj hcs;exact ho.rv _ _ _ _ (VY h hr hx)
omit [RawOf ρ U] [Flat κ]in
theorem Dn{w:World}{F:Nat->Prop}{z:ρ}{zx:U}(hz:Rep.ok w F (Flat.enc z) zx){q:κ}:∀{rs:List (κ×ρ)}{xs:List (κ×U)},CM w F rs xs->Rep.ok w F (Flat.enc (mget z rs q)) (mget zx xs q)
 |[],[],_=>hz
 |[],_::_,h=>by have:=h.1;simp at this
 |_::_,[],h=>by have:=h.1;simp at this
 | (a,r)::rs,(b,x)::xs,h=>by
  have h1:a=b/\rs.map (·.1)=xs.map (·.1):=by have:=h.1;simpa using this
  obtain⟨rfl,h2⟩:=h1;have hh:Rep.ok w F (Flat.enc r) x:=h.2.2 0 _ _ rfl rfl;have ht:CM w F rs xs:=⟨h2,by have:=h.2.1;simpa using this,λi cs y hc hy=>h.2.2 (i+1) cs y (by simpa using hc) (by simpa using hy)⟩;unfold mget;by_cases c:q=a
  ·subst c;simpa[List.lookup]using hh
  ·have c':(q==a)=false:=by simpa using c
   simp only[List.lookup,c'];exact Dn hz ht
variable{B:Bs}{N:Nat}{Z:List (Nat×Value)}{Γ:List HP}{Φ:List RF}{a:Act}{w:World}{Q:Exit->Act->World->Prop}{T:MapT P K V κ ρ}{own:ρ->U->HP}
  {ops:Array Oper}{k d b:Nat}{t ty:TypeId}{pos:String}{af:Array Edge}{x y z:Operand}{v:Value}
omit[RawOf ρ U]in
def MD.mv(ho:Owns own){A:Nat->Prop}{xs:List (κ×U)}(h:(MD T own b xs).ok w A):(MV T (.map (some b)) (some xs)).ok w A:=by
 obtain⟨rs,h⟩:=h;have h1:=Uy h;have h2:=VZ h;exact⟨some rs,⟨b,rfl,h1.1,h1.2⟩,Uy h2,BP ho (VZ h2)⟩
omit [RawOf ρ U]in
def Ava.md(ho:Owns own){xs:List (κ×U)}(i:Nat)(hi:Γ[i]? =some (MD T own b xs):=by rfl):Ava Γ Φ w (MV T (.map (some b)) (some xs)):=λS F hs hf=>by
 obtain⟨A,h1,h2⟩:=hs.get i hi;exact(MV T (.map (some b)) (some xs)).sub (MD.mv ho h1) λk _ hk=>.inr (h2 k hk)
omit [RawOf ρ U] [Rep U]in
def Emmd(T:MapT P K V κ ρ)(own:ρ->U->HP)(c:Cx B N Z Γ Φ a w)(h:∀b fr w',Cx B N ((d,.map (some b))::Z) (Γ++[MD T own b []]) Φ fr w'->wpFrom P ops Q (k+1) fr w')(ho:ops[k]? =some ⟨some d,.makeMap t none,ty,pos,af,none⟩:=by rfl)(hd:Nat.blt d N=true:=by rfl)
  (hm:∀w,(Instr.makeMap t none).run P w= .ok (.map (some w.heap.size)) (w.alloc (.map #[] 0)):=by exact λw=>by simp[Instr.makeMap,run_newObj_alloc]):wpFrom P ops Q k a w:=by
 obtain⟨hF,S,F,hM,hs,hf⟩:=c;refine Mi T hs hM hm ho hd hF λb w' S' fr hs' hp hF'=>h b fr w' ⟨hF',S',F,hM.stp hp,ZL (Γ2:=[_]) (Sep.imp hs' λA hA=>?_),hf.chg hp.chg λk hk hS=>hM.dj k hS hk⟩;exact⟨[],SH hA (SH (rfl:(HP.pure _).ok w' Non) trivial)⟩
omit [Rep U] [RawOf ρ U]in
def Emd{q:κ}{r:ρ}{e:U}{m m':List (κ×U)}{fit:κ->Bool}(i j:Nat)(c:Cx B N Z Γ Φ a w)(hr:mput? fit m q e=some m')(h:∀w',Cx B N Z (rest [i,j] Γ++[MD T own b m']) Φ a w'->wpFrom P ops Q (k+1) a w')(hi:Γ[i]? =some (MD T own b m):=by rfl)(hj:Γ[j]? =some (own r e):=by rfl)(hne:[i,j].Nodup:=by decide)(hfit:T.fit=fit:=by rfl)(hzz:∀y,T.efit y=true:=by exact λ_=>rfl)
  (ho:ops[k]? =some ⟨none,.mapUpdate t x y z,ty,pos,af,none⟩:=by rfl)(ht:P.underlying t=some (.map K V):=by kernel_rfl)(hx:opd Z x=some (.map (some b)):=by kernel_rfl)(hy:opd Z y=some (Rep.val κ (Flat.enc q)):=by kernel_rfl)(hz:opd Z z=some (Rep.val ρ (Flat.enc r)):=by kernel_rfl):wpFrom P ops Q k a w:=by
 obtain⟨hF,S,F,hM,hs,hf⟩:=c;subst hfit;have hp:=hs.part [i,j] (Γ1:=[MD T own b m,own r e]) (by simp[hi,hj]) hne;obtain⟨rs,hp⟩:=Sep.open (L:=own r e::rest [i,j] Γ) hp;have hl:rs.length=m.length:=by
  have:=hp.two.get 1 rfl;obtain⟨A,hA,_⟩:=this;have:=Ub (VZ hA);simpa using this
 refine Nz T 0 hp.two hM rfl ht ho hF (u:=q) (mput?_fit hr) r (hzz r) (by rw[hl];exact mput?_len hr) hx hy rfl hz rfl λw' S' hs' hpp hF'=>h w' ⟨hF',S',F,hM.stp hpp,ZL (Γ2:=[_]) ?_,hf.chg hpp.chg λk hk hS=>hM.dj k hS hk⟩;have hs':Sep (MP T b ((q,r)::rs)::(HP.two (.pure (rs.map (·.1)=m.map (·.1))) (.all own (rs.map (·.2)) (m.map (·.2))))::own r e::rest [i,j] Γ) w' S':=hs';obtain⟨A,B',h1,h2,h3,h4,h5⟩:=hs'.cons_ok;obtain⟨he,h2⟩:=(h2.two).fact;have h6:=Sep.merge (R:=HP.all own (r::rs.map (·.2)) (e::m.map (·.2))) h2 λA hA=>Tf hA;have h7:=Sep.mk_cons (S:=S') h1 h6 h3 h4 h5;refine Sep.merge h7 λA hA=>?_;rw[mput?_val hr];obtain⟨B1,C1,g1,g2,g3,g4⟩:=hA;exact⟨(q,r)::rs,B1,C1,g1,IR g2 (show(HP.pure _).ok w' Non by show List.map _ _=List.map _ _;simp[he]),g3,g4⟩
omit [Flat κ] [Flat ρ] [RawOf ρ U] [DecidableEq κ]in
def Za3{w:World}{F:Nat->Prop}:Rep.ok w F [.slice none 0 0] ([]:List U):=RV.one rfl (RV.mk_slice (l:=([]:List U)) (Zb0 _) (ZcA _) λh=>absurd rfl h)
omit [Flat κ] [DecidableEq κ]in
def Zas{w:World}{F:Nat->Prop}{r:ρ}{x:U}(h:Rep.ok w F (Flat.enc r) x):RV w F (Rep.val ρ (Flat.enc r)) x:=⟨_,h,by unfold Rep.val;rw[RawOf.agg (ρ:=ρ) (U:=U)]⟩
theorem Erv{q:κ}{r:U}{m:Option (List (κ×U))}{fit:κ->Bool}{zz:U}(c:Cx B N Z Γ Φ a w)(hl:Ava [] Φ w (MV T v m))(hr:mgeto? fit zz m q=some r)(h:∀u fr,Cx B N ((d,u)::Z) Γ (Φ++[RO u r]) fr w->wpFrom P ops Q (k+1) fr w)(hfit:T.fit=fit:=by rfl)(hzz:∀w F,Rep.ok w F (Flat.enc T.zero) zz:=by intro w F;exact Za3)
  (ho:ops[k]? =some ⟨some d,.lookup t x y false,ty,pos,af,none⟩:=by rfl)(hd:Nat.blt d N=true:=by rfl)(ht:P.underlying t=some (.map K V):=by kernel_rfl)(hx:opd Z x=some v:=by kernel_rfl)(hy:opd Z y=some (Rep.val κ (Flat.enc q)):=by kernel_rfl):wpFrom P ops Q k a w:=by
 subst hfit;obtain⟨hF,S,F,hM,hs,hf⟩:=c;obtain⟨m',h1,h2⟩:=Ava.ro hl hf;have hrv:Rep.ok w F (Flat.enc (mget T.zero (m'.getD []) q)) r:=by rw[<-mget?_val hr];simp_all[Dn]
 have go:∀fr,FrS N ((d,Rep.val ρ (Flat.enc (mget T.zero (m'.getD []) q)))::Z) fr->wpFrom P ops Q (k+1) fr w:=λfr hF'=>h _ fr ⟨hF',S,F,hM,hs,hf.add (Zas hrv)⟩;cases m' with
 |some l=>
  obtain⟨b,rfl,g1,g2⟩:=h1;exact DF T 0 (Sep.of_ok (A:=F) (P:=MP T b l) ⟨g1,g2⟩) rfl ht ho hd hF (u:=q) (mget?_fit hr) hx hy rfl rfl go
 | none=>
  obtain rfl:v= .map none:=h1;refine ZE hF ho rfl rfl (ZbZ.mp hd) (R:=λz w1=>z=Rep.val ρ (Flat.enc T.zero)/\w1=w) (Zi ?_ ⟨rfl,rfl⟩) λz w1 fr hz hF'=>?_
  ·have hkey:=T.key q (mget?_fit hr);have hck:=T.keyed.check w true hkey;have hfd:(Instr.findKey K (Rep.val κ (Flat.enc q)) []).run P w= .ok none w:=by
    rcases T.keyed.find w hkey [] (λe he=>by cases he)with h|⟨j,e,_,h,_⟩
    all_goals grind
   simp[execOp,Instr.lookup,Zg hF hx,Zg hF hy,run_underlying ht,hck,hfd,Result.andThen,T.hz]
  ·obtain⟨rfl,rfl⟩:=hz;exact go fr hF'
end
section
variable{P:Program}{B:Bs}{N:Nat}{Z:List (Nat×Value)}{Γ:List HP}{Φ:List RF}{a:Act}{w:World}{Q:Exit->Act->World->Prop}
  {ops:Array Oper}{k d:Nat}{t t' ty:TypeId}{pos:String}{af:Array Edge}{x y:Operand}{U:Type}[Flat U]{E:TypeId}{l r m:List U}{b a':Option Addr}{n0 cp c':Nat}{lo n:Int}{u:Value}
omit[Flat U]in
def LV(h:cut? l lo n=some r):r=vcut l lo r.length/\lo.toNat+r.length<=l.length:=by
 unfold cut? at h;split at h
 ·rename_i hb;obtain rfl:=Option.some.inj h;unfold vcut;refine⟨?_,by rw[ZbD,Zb2];omega⟩;rw[ZbD,Zb2,<-Zeq,Zcj (by omega)]
 ·cases h
theorem Evw{lw hw:Option Operand}(i:Nat)(c:Cx B N Z Γ Φ a w)(hr:cut? l lo n=some r)(h:∀a' c' fr,VW (Rep.sz U) b cp lo a' c'->Cx B N ((d,.slice a' r.length c')::Z) Γ Φ fr w->wpFrom P ops Q (k+1) fr w)(hi:Γ[i]? =some (SL E (.slice b n0 cp) l):=by rfl)
  (ho:ops[k]? =some ⟨some d,.slice t x lw hw none,ty,pos,af,none⟩:=by rfl)(hd:Nat.blt d N=true:=by rfl)(he:Ty P E U:=by constructor<;>kernel_rfl)(ht:P.underlying t=some (.slice E):=by kernel_rfl)(hx:opd Z x=some (.slice b n0 cp):=by kernel_rfl)
  (hlo:(match lw with|none=>some 0|some y=>numOf (opd Z y))=some lo:=by kernel_rfl)(hhi:(match hw with|none=>some (len l)|some y=>numOf (opd Z y))=some n:=by kernel_rfl):wpFrom P ops Q k a w:=by
 obtain⟨hF,S,F,hM,hs,hf⟩:=c;obtain⟨A,hA,_⟩:=hs.get i hi;refine Dt he ht ho hd hF hx (SL.rv hA) (m:=lo) (n:=n) ?_ ?_ hr λa' c' fr hv _ hF'=>h a' c' fr hv ⟨hF',S,F,hM,hs,hf⟩
 ·grind[Option.some.inj,Yk]
 ·cases hw with
  |none=>exact(Option.some.inj hhi).symm
  |some y=>simp_all[Yk]
def Ava.vw(i:Nat)(hv:VW (Rep.sz U) b cp lo a' c')(hr:cut? l lo n=some r)(hi:Γ[i]? =some (SL E (.slice b n0 cp) l):=by rfl):Ava Γ Φ w (RO (.slice a' r.length c') r):=λS F hs hf=>by
 obtain⟨A,h1,h2⟩:=hs.get i hi;obtain⟨e1,e2⟩:=LV hr;have:=Hy (RV.sub (SL.rv h1) λk _ hk=>(.inr (h2 k hk):F k\/S k)) hv e2;rw[<-e1]at this;exact this
def Ecpv(i:Nat)(c:Cx B N Z Γ Φ a w)(hv:VW (Rep.sz U) b cp lo a' c')(hr:cut? l lo n=some r)(hu:Ava Γ Φ w (RO u m))(h:∀q fr w',Cx B N ((d,q)::Z) (Γ.set i (SL E (.slice b n0 cp) (vcopy l lo r.length m))) Φ fr w'->wpFrom P ops Q (k+1) fr w')(hi:Γ[i]? =some (SL E (.slice b n0 cp) l):=by rfl)
  (ho:ops[k]? =some ⟨some d,.call ⟨.builtin .copy,#[x,y],#[t,t']⟩,ty,pos,af,none⟩:=by rfl)(hd:Nat.blt d N=true:=by rfl)(he:Ty P E U:=by constructor<;>kernel_rfl)(ht:P.underlying t=some (.slice E):=by kernel_rfl)(hx:opd Z x=some (.slice a' r.length c'):=by kernel_rfl)(hy:opd Z y=some u:=by kernel_rfl):wpFrom P ops Q k a w:=by
 obtain⟨F',hu⟩:=c.use hu;obtain⟨hF,S,F,hM,hs,hf⟩:=c;exact Af i hs hM hi ht he ho hd hF hx hy hu hv (LV hr).2 λw' S' fr q hs' hp hF'=>h q fr w' ⟨hF',S',F,hM.stp hp,hs',hf.chg hp.chg λk hk hS=>hM.dj k hS hk⟩
end
section
variable{E:TypeId}{w:World}{A:Nat->Prop}{b a':Option Addr}{n c c' k:Nat}{l r:List Int}{m hi:Int}
def JH{v:Value}(h:(TL E v l).ok w A):∃a c,v= .slice a l.length c:=by
 rcases h with⟨g,c,lo,a',c',base,h1,h2,h3,h4,rfl⟩|⟨rfl,a,rfl⟩
 all_goals simp
def CB(h:(TL E (.slice b n c) l).ok w A)(hk:k<=l.length):(TL E (.slice b k c) (l.take k)).ok w A:=by
 rcases h with⟨g,c0,lo,a0,c1,base,h1,h2,h3,h4,h5⟩|⟨rfl,a,h5⟩
 ·obtain⟨rfl,rfl,rfl⟩:=h5;have hb:lo.toNat+k<=base.length:=by omega
  have e:(base.take (lo.toNat+k)).length=lo.toNat+k:=by simp_all
  have e2:(l.take k).length=k:=by simp_all
  refine .inl ⟨g,c0,lo,b,c,base.take (lo.toNat+k),by rw[e];exact h1.front hb,h2,by rw[e,e2],?_,by rw[e2]⟩;simp_all[Zeq]
 ·obtain⟨rfl,rfl,rfl⟩:=h5;obtain rfl:k=0:=by simp_all
  exact .inr ⟨rfl,b,rfl⟩
def Bz(h:(TL E (.slice b n c) l).ok w A)(hv:VW 1 b c m a' c')(hr:cut? l m hi=some r):(TL E (.slice a' r.length c') r).ok w A:=by
 unfold cut? at hr;split at hr
 ·obtain rfl:=Option.some.inj hr;have h1:=CB (k:=hi.toNat) h (by omega);exact ZaD h1 hv (by grind) rfl
 ·cases hr
end
abbrev ownL(E:TypeId):Hd->List Int->HP:=λh xs=>TL E h.v xs
def JK(E:TypeId):Owns (ownL E):=⟨rfl,rfl,λw A r x h=>RV.one rfl (ML h)⟩
def Mw(E:TypeId)(w:World):(ownL E ⟨none,0,0⟩ []).ok w Non:=.inr ⟨rfl,none,rfl⟩
section
variable{P:Program}{B:Bs}{N:Nat}{Z:List (Nat×Value)}{Γ:List HP}{Φ:List RF}{a:Act}{w:World}{Q:Exit->Act->World->Prop}
  {ops:Array Oper}{k d d2:Nat}{t t' ty ty':TypeId}{pos pos':String}{af af':Array Edge}{x y:Operand}{E E':TypeId}{l r m:List Int}{v u:Value}{rs:List Hd}{xs:List (List Int)}
def Cx.toT(i:Nat)(c:Cx B N Z Γ Φ a w)(hi:Γ[i]? =some (SL E v l):=by rfl):Cx B N Z (Γ.set i (TL E v l)) Φ a w:=c.swap i (λ_ h=>IY h) hi
def Ava.gt(i:Nat)(hi:Γ[i]? =some (TL E v l):=by rfl):Ava Γ Φ w (RO v l):=λS F hs hf=>by
 obtain⟨A,h1,h2⟩:=hs.get i hi;exact RV.sub (ML h1) λk _ hk=>.inr (h2 k hk)
def Cx.relent{b:Option Addr}{n cp:Nat}(i:Nat)(c:Cx B N Z Γ Φ a w)(hi:Γ[i]? =some (TL E (.slice b n cp) l):=by rfl):n=l.length/\Cx B N Z (Γ.set i (TL E (.slice b l.length cp) l)) Φ a w:=by
 obtain⟨_,S,F,_,hs,_⟩:=id c;obtain⟨A,h1,_⟩:=hs.get i hi;obtain⟨a',c',he⟩:=JH h1;have he:n=l.length:=by simp_all
 subst he;exact⟨rfl,c.swap i (λ_ h=>h) hi⟩
def Eapt(i:Nat)(c:Cx B N Z Γ Φ a w)(hu:Ava Γ Φ w (RO u m))(hr:app? l m=some r)(h:∀a' c' fr w',Cx B N ((d,.slice a' (List.length r) c')::Z) (Γ.set i (TL E (.slice a' (List.length r) c') r)) Φ fr w'->wpFrom P ops Q (k+1) fr w')(hi:Γ[i]? =some (TL E v l):=by rfl)
  (ho:ops[k]? =some ⟨some d,.call ⟨.builtin .append,#[x,y],#[t,t']⟩,ty,pos,af,none⟩:=by rfl)(htt:t'=t:=by rfl)(hd:Nat.blt d N=true:=by rfl)(he:ElT P E Int:=by refine elT ?_;kernel_rfl)(ht:P.underlying t=some (.slice E):=by kernel_rfl)
  (hx:opd Z x=some v:=by kernel_rfl)(hy:opd Z y=some u:=by kernel_rfl):wpFrom P ops Q k a w:=by
 obtain⟨F',hu⟩:=c.use hu;obtain⟨hF,S,F,hM,hs,hf⟩:=c;exact Fz i hs hM hi ht he ho htt hd hF hx hy hu hr λa' c' w' S' fr hs' hp hF'=>h a' c' fr w' ⟨hF',S',F,hM.stp hp,hs',hf.chg hp.chg λk hk hS=>hM.dj k hS hk⟩
theorem Ecutt{lw hw:Option Operand}{b:Option Addr}{n0 cp:Nat}{lo n:Int}(i:Nat)(c:Cx B N Z Γ Φ a w)(hr:cut? l lo n=some r)(h:∀a' c' fr,Cx B N ((d,.slice a' r.length c')::Z) (Γ.set i (TL E (.slice a' r.length c') r)) Φ fr w->wpFrom P ops Q (k+1) fr w)(hi:Γ[i]? =some (TL E (.slice b n0 cp) l):=by rfl)
  (ho:ops[k]? =some ⟨some d,.slice t x lw hw none,ty,pos,af,none⟩:=by rfl)(hd:Nat.blt d N=true:=by rfl)(he:Ty P E Int:=by constructor<;>kernel_rfl)(ht:P.underlying t=some (.slice E):=by kernel_rfl)(hx:opd Z x=some (.slice b n0 cp):=by kernel_rfl)
  (hlo:(match lw with|none=>some 0|some y=>numOf (opd Z y))=some lo:=by kernel_rfl)(hhi:(match hw with|none=>some (len l)|some y=>numOf (opd Z y))=some n:=by kernel_rfl):wpFrom P ops Q k a w:=by
 obtain⟨hF,S,F,hM,hs,hf⟩:=c;obtain⟨A,hA,_⟩:=hs.get i hi;refine Dt he ht ho hd hF hx (ML hA) (m:=lo) (n:=n) ?_ ?_ hr λa' c' fr hv _ hF'=>h a' c' fr ⟨hF',S,F,hM,hs.swapT i hi λA hA=>Bz hA hv hr,hf⟩
 ·grind[Option.some.inj,Yk]
 ·cases hw with
  |none=>exact(Option.some.inj hhi).symm
  |some y=>simp_all[Yk]
def Eall{q:List Int}{n:Int}(i j:Nat)(c:Cx B N Z Γ Φ a w)(hz:get? xs n=some q)(h:∀p a' c' fr,rs[n.toNat]? =some ⟨a',q.length,c'⟩->Cx B N ((d2,.slice a' q.length c')::(d,p)::Z) Γ Φ fr w->wpFrom P ops Q (k+2) fr w)(hi:Γ[i]? =some (SL E v rs):=by rfl)(hj:Γ[j]? =some (HP.all (ownL E') rs xs):=by rfl)
  (ho:ops[k]? =some ⟨some d,.indexAddr t x y,ty,pos,af,none⟩:=by rfl)(ho':ops[k+1]? =some ⟨some d2,.load t' (.tmp d),ty',pos',af',none⟩:=by rfl)(hd:Nat.blt d N=true:=by rfl)(hd':Nat.blt d2 N=true:=by rfl)
  (he:Ty P t' Hd:=by constructor<;>kernel_rfl)(ht:P.underlying t=some (.slice t'):=by kernel_rfl)(hx:opd Z x=some v:=by kernel_rfl)(hy:numOf (opd Z y)=some n:=by kernel_rfl):wpFrom P ops Q k a w:=by
 obtain⟨_,S,F,_,hs,_⟩:=id c;obtain⟨A,hA,_⟩:=hs.get j hj;have hl:=Ub hA;have hq:=get?_at hz;have hlt:=(Zbu.1 hq).1;have hr:rs[n.toNat]? =some rs[n.toNat]:=Zbo (by omega);obtain⟨a',c',e⟩:=JH (E:=E') (v:=(rs[n.toNat]).v) (l:=q) (VY hA hr hq:(ownL E' rs[n.toNat] q).ok w A);have e':rs[n.toNat]=⟨a',q.length,c'⟩:=by
  generalize rs[n.toNat]=z at e;cases z;simp_all[Hd.v,Value.slice.injEq]
 have hg:get? rs n=some ⟨a',q.length,c'⟩:=by
  simp_all[get?,Zbq]
 exact Eel (U:=Hd) c (.g i hi) hg (λp fr c=>h p a' c' fr (by rw[hr,e']) c) ho ho' hd hd' he ht hx hy
def Ava.ae{a':Option Addr}{c':Nat}{q:List Int}{n:Int}(j:Nat)(hr:rs[n.toNat]? =some ⟨a',q.length,c'⟩)(hz:get? xs n=some q)(hj:Γ[j]? =some (HP.all (ownL E) rs xs):=by rfl):Ava Γ Φ w (RO (.slice a' q.length c') q):=λS F hs hf=>by
 obtain⟨A,h1,h2⟩:=hs.get j hj;exact RV.sub (ML (E:=E) ((VY h1 hr (get?_at hz):(ownL E ⟨a',q.length,c'⟩ q).ok w A):(TL E (.slice a' q.length c') q).ok w A)) λk _ hk=>.inr (h2 k hk)
def Cx.tka{a':Option Addr}{c':Nat}{q:List Int}{n:Int}(j:Nat)(c:Cx B N Z Γ Φ a w)(hr:rs[n.toNat]? =some ⟨a',q.length,c'⟩)(hz:get? xs n=some q)(hj:Γ[j]? =some (HP.all (ownL E) rs xs):=by rfl):Cx B N Z (rest [j] Γ++[TL E (.slice a' q.length c') q]) Φ a w:=
 c.pack [HP.all (ownL E) rs xs] [j] (λA h=>(VY (Sep.sole h) hr (get?_at hz):(ownL E ⟨a',q.length,c'⟩ q).ok w A)) (by simp[hj]) (by simp)
def Cx.fza{a':Option Addr}{c':Nat}{q:List Int}{n:Int}(i j:Nat)(c:Cx B N Z Γ Φ a w)(hr:rs[n.toNat]? =some ⟨a',q.length,c'⟩)(hz:get? xs n=some q)(hi:Γ[i]? =some (SL E' v rs):=by rfl)(hj:Γ[j]? =some (HP.all (ownL E) rs xs):=by rfl)(hne:[i,j].Nodup:=by decide):Cx B N Z (rest [i,j] Γ) (Φ++[RO v xs,RO (.slice a' q.length c') q]) a w:=by
 obtain⟨h,S,F,h1,h2,h3⟩:=c;have hp:=h2.part [i,j] (Γ1:=[SL E' v rs,HP.all (ownL E) rs xs]) (by simp[hi,hj]) hne;obtain⟨S',F',hM,hs,hb,hfz⟩:=Sep.freeze hp.join2 h1;refine⟨h,S',F',hM,hs,(h3.sub λk _ hk=>hfz k hk).join (AllF.of [RO v xs,RO (.slice a' q.length c') q] ⟨Lr (JK E) hb,ML (E:=E) ((VY (VZ hb) hr (get?_at hz):(ownL E ⟨a',q.length,c'⟩ q).ok w F'):(TL E (.slice a' q.length c') q).ok w F'),trivial⟩)⟩
def Cx.tk2{a' a2:Option Addr}{c' c2:Nat}{q q2:List Int}{n n2:Int}(j:Nat)(c:Cx B N Z Γ Φ a w)(hr:rs[n.toNat]? =some ⟨a',q.length,c'⟩)(hz:get? xs n=some q)(hr2:rs[n2.toNat]? =some ⟨a2,q2.length,c2⟩)(hz2:get? xs n2=some q2)(hne:n2.toNat<n.toNat:=by decide)(hj:Γ[j]? =some (HP.all (ownL E) rs xs):=by rfl):
  Cx B N Z (rest [j] Γ++[TL E (.slice a' q.length c') q]) (Φ++[RO (.slice a2 q2.length c2) q2]) a w:=by
 obtain⟨h,S,F,h1,h2,h3⟩:=c;have hp:=h2.part [j] (Γ1:=[HP.all (ownL E) rs xs]) (by simp[hj]) (by simp);have h4:Sep (HP.two (ownL E ⟨a',q.length,c'⟩ q) (.but (ownL E) n.toNat rs xs)::rest [j] Γ) w S:=Sep.imp hp λA hA=>SI hA hr (get?_at hz);have h5:=h4.two;have h6:Sep (HP.but (ownL E) n.toNat rs xs::(rest [j] Γ++[TL E (.slice a' q.length c') q])) w S:=by
  have:=ZL (Γ2:=[ownL E ⟨a',q.length,c'⟩ q]) h5;exact this
 obtain⟨S',F',hM,hs,hb,hfz⟩:=Sep.freeze h6 h1;refine⟨h,S',F',hM,hs,(h3.sub λk _ hk=>hfz k hk).add ?_⟩;have hb1:(HP.all (ownL E) (rs.take n.toNat) (xs.take n.toNat)).ok w F':=Uy hb;have hb2:(ownL E ⟨a2,q2.length,c2⟩ q2).ok w F':=VY hb1 (i:=n2.toNat) (by simp_all) (by simp_all[Zci,Zbq,get?_at]);exact ML (E:=E) (hb2:(TL E (.slice a2 q2.length c2) q2).ok w F')
end
section
variable{P:Program}{B:Bs}{N:Nat}{Z:List (Nat×Value)}{Γ:List HP}{Φ Φ1:List RF}{a:Act}{w:World}{Q:Exit->Act->World->Prop}
  {draw:Bool}{ms:List Nat}{ops:Array Oper}{pds:List Pd}{j:Nat}{dst:Option Tmp}{g:Option (Nat×Bool)}{ty:TypeId}{x:Operand}{pos:String}{af:Array Edge}
def NclV{args:List Value}{f:FuncId}{xs:Array Operand}{ts:Array TypeId}{vs:List Value}{u:Value}(c:Cx B N Z Γ Φ a w)(hcon:gc ops pds ops.size j->Con P f args [] Φ1 λ(_:Unit)=>(vs,[],[]))(ro:AvaL Γ Φ w Φ1)
  (hf:∀(args:Array Value)(w:World),(callFunc f args).run P w= .ok (.enter f args) w)(hv:Go.GL.tup vs=u:=by rfl)(ho:ops[j]? =some ⟨dst,.call ⟨.value x,xs,ts⟩,ty,pos,af,g⟩:=by rfl)(hx:envP ops Z pds j x=some (.func (.func f) #[] #[]):=by kernel_rfl)
  (hargs:xs.toList.map (envP ops Z pds j)=args.map some:=by kernel_rfl)(hG:Good ops pds [])(hpd:pds.getD j .any= .eq u):NPB P draw ms ops pds a w Q j:=
 DY args [] hG c.fr hf ho hx hargs λw' hC hg=>by
  rw[Zcg];have hro:AllF Φ1 w (λk=>k<w.heap.size):=by
   obtain⟨_,S0,F0,hM0,hs0,hF0⟩:=c;exact(AvaL.all ro hs0 hF0).sub λk hk _=>hk
  refine(hcon hg w' Non (λk=>k<w.heap.size) (Sep.nil _ _) (hro.chg hC λ_ _ h=>h.elim) (λ_ h=>h.elim) (λk hk=>ZbA hk hC.size) (λ_ h=>h.elim)).mono ?_;rintro e w'' ⟨i,S',F',rfl,hM',_,_⟩;exact⟨_,rfl,hM'.chg.mono λk hk=>hk,by rw[hpd];exact hv⟩
end
open Go.RowKit Go.Maps
def Jz{H:Type}{P:Program}{k:TypeId}{R:Value->Option (DataW H×List MemPlace)}{w w':World}{S:Nat->Prop}{b r n cnt:Nat}{D:DataW H}{left:Lit->Bool}
  (h:w.ranges P k R b r n D left cnt)(hc:Chg S w w')(hb:¬S b)(hr:¬S r):w'.ranges P k R b r n D left cnt:=by
 have h1:=h.owns.lt;have h2:=h.lt;obtain⟨es,clock,since,seen,c0,hb',F,hs,hD,hr',rest⟩:=h;exact⟨es,clock,since,seen,c0,(hc.block b h1 hb).trans hb',F,hs,hD,(hc.block r h2 hr).trans hr',rest⟩
def Chg.of_grownN{w w':World}(h:w.grownBy w' none):Chg Non w w':=⟨h.os,h.tape,h.output,h.size,λk hk _=>h.block k hk (by simp)⟩
section
variable{P:Program}{K V:TypeId}{κ β:Type}[Flat κ][Flat β][DecidableEq κ]
def RG(T:MapT P K V κ β)(b r:Nat)(m:List (κ×β))(left:Lit->Bool)(cnt:Nat):HP where
 ok w A:=(∃n,w.ranges P K T.R b r n (T.D m) left cnt)/\(∀p∈m,T.fit p.1=true)/\A b/\A r
 mono:=λ⟨⟨n,h⟩,hf,hb,hr⟩hA=>⟨⟨n,h⟩,hf,hA _ h.owns.lt hb,hA _ h.lt hr⟩
 keep:=λ⟨⟨n,h⟩,hf,hb,hr⟩hc hT=>⟨⟨n,Jz h hc (hT _ hb) (hT _ hr)⟩,hf,hb,hr⟩
omit [DecidableEq κ]in
theorem MapT.none_(T:MapT P K V κ β){kl:Lit}(z:DataW Value):∀m:List (κ×β),(∀p∈m,T.lit p.1≠kl)->(T.D m).atKey kl z=z
 |[],_=>rfl
 |(u,y)::m,h=>by
  rw[MapT.D,atKey_put_other (λe=>h (u,y) Zcd e.symm)];exact MapT.none_ T z m λp hp=>h p (Zca _ hp)
omit [Flat κ] [Flat β]in
theorem Ph{x:κ}:∀{m:List (κ×β)},(∃p∈m,p.1=x)->∃y,m.lookup x=some y
 |[],⟨p,hp,_⟩=>by cases hp
 | (u,y)::m,h=>by
  by_cases e:x=u
  ·subst e;exact⟨y,by simp[List.lookup]⟩
  ·have e':(x==u)=false:=by simpa using e
   obtain⟨p,hp,rfl⟩:=h;rcases ZbN.1 hp with rfl|hp
   ·exact absurd rfl e
   ·obtain⟨z,hz⟩:=Ph (x:=p.1) ⟨p,hp,rfl⟩;exact⟨z,by rw[Zcc,e'];exact hz⟩
def MapT.came(T:MapT P K V κ β){m:List (κ×β)}(hf:∀p∈m,T.fit p.1=true){kl:Lit}{v:Value}{y:DataW Value×List MemPlace}(hv:T.R v=some y)(hat:∀zd,(T.D m).atKey kl zd=y.1):
  ∃x z,T.fit x=true/\T.lit x=kl/\m.lookup x=some z/\v=Rep.val β (Flat.enc z):=by
 by_cases hk:∃p∈m,T.lit p.1=kl
 ·obtain⟨p,hp,rfl⟩:=hk;have hfit:=hf p hp;obtain⟨z,hz⟩:=Ph (x:=p.1) ⟨p,hp,rfl⟩;refine⟨p.1,z,hfit,rfl,hz,?_⟩;have h1:=hat (.map []);rw[T.at_ hfit _ m hf,hz]at h1;simp only at h1;obtain⟨y1,ps⟩:=y;simp only at h1;subst h1;exact T.back v z ps hv
 ·exfalso;have hn:∀p∈m,T.lit p.1≠kl:=λp hp e=>hk ⟨p,hp,e⟩;have h1:=hat (.lit (.bool true));have h2:=hat (.lit (.bool false));rw[T.none_ _ m hn]at h1 h2;rw[<-h2]at h1;cases h1
end
section
variable{P:Program}{B:Bs}{N:Nat}{Z:List (Nat×Value)}{Γ:List HP}{Φ:List RF}{a:Act}{w:World}{Q:Exit->Act->World->Prop}{K':Act->World->Prop}
  {ops:Array Oper}{k d:Nat}{t t' ty yt:TypeId}{pos:String}{af:Array Edge}{x y:Operand}
  {K V:TypeId}{κ β:Type}[Flat κ][Flat β][DecidableEq κ]{T:MapT P K V κ β}{b r:Nat}{m:List (κ×β)}{left:Lit->Bool}{cnt:Nat}
def Ern(i:Nat)(c:Cx B N Z Γ Φ a w)
  (h:∀r fr w',Cx B N ((d,.pointer (some ⟨r,0,none⟩))::Z) (Γ.set i (RG T b r m (Maps.has (T.D m)) (Maps.size (T.D m)))) Φ fr w'->wpFrom P ops Q (k+1) fr w')(hi:Γ[i]? =some (MP T b m):=by rfl)
  (ho:ops[k]? =some ⟨some d,.range t x,ty,pos,af,none⟩:=by rfl)(hd:Nat.blt d N=true:=by rfl)(ht:P.underlying t=some (.map K V):=by kernel_rfl)(hx:opd Z x=some (.map (some b)):=by kernel_rfl):wpFrom P ops Q k a w:=by
 obtain⟨hF,S,F,hM,hs,hf⟩:=c;obtain⟨A,⟨hown,hA⟩,hup⟩:=hs.upd i hi hM;obtain⟨w',hrun,hrg,hg,hsz⟩:=hown.1.range T.keyed ht;refine ZE hF ho rfl rfl (ZbZ.mp hd) (R:=λz w1=>z= .pointer (some ⟨w.heap.size,0,none⟩)/\w1=w') (Zi ?_ ⟨rfl,rfl⟩) λz w1 fr hz hF'=>?_
 ·simp[execOp,Zg hF hx,hrun]
 ·obtain⟨rfl,rfl⟩:=hz;obtain⟨S',hp,hs'⟩:=hup (P':=RG T b w.heap.size m (Maps.has (T.D m)) (Maps.size (T.D m))) (Chg.of (Chg.of_grownN hg)) ⟨⟨_,hrg⟩,hown.2,.inl hA,.inr (Zb0 _)⟩;exact h _ fr w1 ⟨hF',S',F,hM.stp hp,hs',hf.chg hp.chg λk hk hS=>hM.dj k hS hk⟩
def Enx(i:Nat)(hback:∀key x,keyOf P K key=some (T.lit x)->key=Rep.val κ (Flat.enc x))(c:Cx B N Z Γ Φ a w)
  (h0:(∀kl,left kl=false)->∀fr,Cx B N ((d,.tuple #[.bool false])::Z) Γ Φ fr w->wpFrom P ops Q (k+1) fr w)
  (h1:∀(u:κ)(z:β)cnt' fr w',T.fit u=true->m.lookup u=some z->left (T.lit u)=true->cnt'<cnt->(Instr.entry (.pointer (some ⟨r,0,none⟩))).run P w'= .ok (.tuple #[Rep.val κ (Flat.enc u),Rep.val β (Flat.enc z)]) w'->Cx B N ((d,.tuple #[.bool true,Rep.val κ (Flat.enc u),Rep.val β (Flat.enc z)])::Z) (Γ.set i (RG T b r m (λq=>left q&& !q.sameKey (T.lit u)) cnt')) Φ fr w'->wpFrom P ops Q (k+1) fr w')
  (hi:Γ[i]? =some (RG T b r m left cnt):=by rfl)(ho:ops[k]? =some ⟨some d,.next x false,ty,pos,af,none⟩:=by rfl)(hd:Nat.blt d N=true:=by rfl)(hx:opd Z x=some (.pointer (some ⟨r,0,none⟩)):=by kernel_rfl):wpFrom P ops Q k a w:=by
 obtain⟨hF,S,F,hM,hs,hf⟩:=c;obtain⟨A,⟨⟨n,hrg⟩,hfit,hAb,hAr⟩,hup⟩:=hs.upd i hi hM;rcases hrg.next T.keyed ty with⟨_,hl,hrun⟩|⟨key,v,kl,y,w',cnt',hkey,hlk,hv,hat,hrun,hrg',hlt,hgr,hsz,hen⟩
 ·refine ZE hF ho rfl rfl (ZbZ.mp hd) (R:=λz w1=>z= .tuple #[.bool false]/\w=w1) (Zi ?_ ⟨rfl,rfl⟩) λz w1 fr hz hF'=> ?_
  ·simp[execOp,Zg hF hx,hrun]
  ·obtain⟨rfl,rfl⟩:=hz;exact h0 hl fr ⟨hF',S,F,hM,hs,hf⟩
 ·obtain⟨u,z,hu,rfl,hz,rfl⟩:=T.came hfit hv hat;obtain rfl:=hback key u hkey;refine ZE hF ho rfl rfl (ZbZ.mp hd) (R:=λq w1=>q= .tuple #[.bool true,Rep.val κ (Flat.enc u),Rep.val β (Flat.enc z)]/\w1=w') (Zi ?_ ⟨rfl,rfl⟩) λq w1 fr hq hF'=>?_
  ·simp[execOp,Zg hF hx,hrun]
  ·obtain⟨rfl,rfl⟩:=hq;have hc:Chg A w w1:=(Chg.of_grown hgr).mono λk hk=>by subst hk;exact hAr
   obtain⟨S',hp,hs'⟩:=hup (P':=RG T b r m (λq=>left q&& !q.sameKey (T.lit u)) cnt') hc ⟨⟨n,hrg'⟩,hfit,.inl hAb,.inl hAr⟩;exact h1 u z cnt' fr w1 hu hz hlk hlt hen ⟨hF',S',F,hM.stp hp,hs',hf.chg hp.chg λk hk hS=>hM.dj k hS hk⟩
def Een{v:Value}(c:Cx B N Z Γ Φ a w)(hen:(Instr.entry (.pointer (some ⟨r,0,none⟩))).run P w= .ok v w)(h:∀fr,Cx B N ((d,v)::Z) Γ Φ fr w->wpFrom P ops Q (k+1) fr w)
  (ho:ops[k]? =some ⟨some d,.entry x,ty,pos,af,none⟩:=by rfl)(hd:Nat.blt d N=true:=by rfl)(hx:opd Z x=some (.pointer (some ⟨r,0,none⟩)):=by kernel_rfl):wpFrom P ops Q k a w:=
 ZE c.fr ho rfl rfl (ZbZ.mp hd) (R:=λq w1=>q=v/\w=w1) (Zi (by simp[execOp,Zg c.fr hx,hen]) ⟨rfl,rfl⟩) λq w1 fr hq hF'=>by
  obtain⟨rfl,rfl⟩:=hq;exact h fr (c.to hF')
theorem AU{c:Code}(I:Nat->Act->World->Prop){n:Nat}(h0:I n a w)(round:∀n a w,I n a w->c.wp P (Exit.then (λa' w'=>∃n',n'<n/\I n' a' w') Q) a w):(Code.loop c).wp P Q a w:=by
 have key:∀n a w,I n a w->∀(b:Frame)(K:List Item)(cs:List Frame),
   ∃e a' w',Q e a' w'/\Arrives P (lone (b.at a (.code c:: .inLoop c::K)) cs w) b K cs e a' w':=by
  intro n
  induction n using Nat.strongRecOn with
  | ind n ih=>
   intro a w hI b K cs;obtain⟨e,a₁,w₁,hq,harr⟩:=round n a w hI b (.inLoop c::K) cs;cases e with
   |normal=>
    obtain⟨n',hn,hI'⟩:=hq;obtain⟨e₂,a₂,w₂,hq₂,harr₂⟩:=ih n' hn a₁ w₁ hI' b K cs;exact⟨e₂,a₂,w₂,hq₂,.of_steps (Steps.trans harr (.one step_inLoop)) harr₂⟩
   |exit id=>exact⟨_,a₁,w₁,hq,.pass (x:=.inLoop c) rfl (λ_ _=>.inl (by simp)) harr⟩
   |goto l=>exact⟨_,a₁,w₁,hq,.pass (x:=.inLoop c) rfl (λ_ _=>.inl (by simp)) harr⟩
   |ret=>exact⟨_,a₁,w₁,hq,.pass (x:=.inLoop c) rfl (λ_ _=>.inl (by simp)) harr⟩
   |panic ch=>exact⟨_,a₁,w₁,hq,.pass (x:=.inLoop c) rfl (λ_ _=>.inl (by simp)) harr⟩
   |outgrown=>exact⟨_,a₁,w₁,hq,.pass (x:=.inLoop c) rfl (λ_ _=>.inl (by simp)) harr⟩
 intro b K cs;obtain⟨e,a',w',hq,harr⟩:=key n a w h0 b K cs;exact⟨e,a',w',hq,.of_steps (.one step_loop) harr⟩
def LpW{id:Nat}{bd:Code}(I:Nat->Act->World->Prop)(M:Act->World->Prop){n:Nat}(h0:I n a w)
  (round:∀n a w,I n a w->bd.wp P (Exit.then (λa' w'=>∃n',n'<n/\I n' a' w') (Exit.inBlock id (Exit.then M Q))) a w)(cont:∀a w,M a w->K' a w):(Code.block id (.loop bd)).wp P (Exit.then K' Q) a w:=
 wp_cut (wp_block (AU I h0 round)) cont
end
open Go.RowKit Go.Shelf Go.Sort Go.Proofs Go.Lib
def Lx{w:World}{g:Nat}{cur:Array Value}{e:TypeId}{F:Array Value}(hb:w.heap[g]? =some (.cells cur e (0,0)))(ht:cur.toList.take F.size=F.toList):Holds id w g 0 F:=by
 intro j hj;refine⟨?_,by simp_all[World.frozen?]⟩;have h1:(cur.toList.take F.size)[j]? =F.toList[j]?:=by rw[ht]
 rw[ZdE hj]at h1;simp_all[World.cell?,Zdc,ZdJ,Zbp,Zbx,Zdm]
def LK{w:World}{g n:Nat}{os:Array Obj}{cur:Array Value}{e:TypeId}{fr:Nat×Nat}(F:Array Value)(hb:w.heap[g]? =some (.cells cur e fr)):
  (grow (putRow id (Sort.ahead w n) g 0 F) os).heap[g]? =some (.cells (putCells id 0 F cur) e fr):=by
 grind[Array.getElem?_eq_some_iff,heap_grow_old,putRow,mapBlock,Sort.ahead,onCells]
def Pn{w:World}{g n:Nat}{os:Array Obj}(F:Array Value):w.grownBy (grow (putRow id (Sort.ahead w n) g 0 F) os) (some g):=by
 refine⟨rfl,rfl,rfl,by simp,λk hk hne=>?_⟩;grind[heap_grow_old,putRow,mapBlock,Sort.ahead]
def Oo(cur F:Array Value)(h:F.size<=cur.size):(putCells id 0 F cur).toList.take F.size=F.toList:=by
 apply Zcv;grind[List.getElem?_take_of_lt,putCells,List.getElem?_take_eq_none,List.getElem?_eq_none]
section
variable{U:Type}[Flat U][Inhabited U]
omit[Inhabited U]in
def Gq(x:U):(Flat.enc x).length=Rep.sz U:=Rep.len (w:=default) (F:=Non) (Flat.iff.2 rfl:Rep.ok default Non (Flat.enc x) x)
omit [Inhabited U]in
def Kw{w:World}{F:Nat->Prop}{css:List (List Value)}{l:List U}(h1:Css w F css l):css=l.map Flat.enc:=by
 apply Zcv;intro i;rw[ZbO];by_cases hi:i<l.length
 ·have hc:i<css.length:=by rw[h1.1];exact hi
  have:=h1.2 i css[i] l[i] (Zbo hc) (Zbo hi);rw[Zbo hc,Zbo hi,Flat.iff.1 this];rfl
 ·rw[ZbP (by rw[h1.1];omega),ZbP (by omega)];rfl
omit [Flat U] [Inhabited U]in
theorem IQ{k:Nat}(enc:U->List Value)(hk:∀x,(enc x).length=k)(h0:0<k):∀(l:List U)(t:Nat),(l.map enc).flatten[t]? =(l[t/k]?).bind λx=>(enc x)[t%k]?
 |[],t=>by simp
 | x::l,t=>by
  rw[Zb1,Zdd];by_cases h:t<k
  ·rw[ZbH (by rw[hk];exact h),ZcE h,ZcQ h];rfl
  ·rw[ZbB (by rw[hk];omega),hk,IQ enc hk h0 l];obtain⟨u,rfl⟩:∃u,t=u+k:=⟨t-k,by omega⟩;rw[Nat.add_sub_cancel,Nat.add_div_right _ h0,Nat.add_mod_right];rfl
omit [Flat U]in
theorem JI{k:Nat}(enc:U->List Value)(hk:∀x,(enc x).length=k)(h0:0<k)(l:List U):(flatK enc k l.toArray).toList=(l.map enc).flatten:=by
 have hlen:(l.map enc).flatten.length=l.length*k:=by
  clear h0
  induction l with
  |nil=>simp
  |cons x l ih=>rw[Zb1,Zdd,Zbw,hk,ih,Zb6,Zdv,ZdA,Nat.add_comm]
 apply Zcv;intro t;by_cases ht:t<l.length*k
 ·rw[IQ enc hk h0];have hq:t/k<l.length:=Nat.div_lt_of_lt_mul (by rw[Zcl];exact ht);have hm:t%k<k:=Nat.mod_lt _ h0;have h1:=get_flatK enc k l.toArray t (by simpa using ht);have h2:t<(flatK enc k l.toArray).size:=by simpa using ht
  rw[Zdm,Zcy h2];rw[getElem!_pos _ t h2]at h1;rw[h1];have h3:l.toArray[t/k]! =l[t/k]:=by simp[hq]
  rw[h3,Zbo hq];simp only[Zbn];rw[Zbo (by rw[hk];exact hm),getElem!_pos _ _ (by rw[hk];exact hm)]
 ·rw[ZbP (by simpa using ht),ZbP (by rw[hlen];omega)]
def OwnS.sortedF{w:World}{E:TypeId}{go:Option Nat}{G:Nat->Prop}{a:Option Addr}{n c:Nat}{l:List U}(h:OwnS w E go G Non (.slice a n c) l)(hl:n≠0)(h0:0<Rep.sz U):
  n=l.length/\∃g,a=some ⟨g,0,none⟩/\g<w.heap.size/\HoldsK Flat.enc (Rep.sz U) w g 0 l.toArray/\
   ∀k os(l':List U),l'.length=l.length->OwnS (grow (putRowK Flat.enc (Rep.sz U) (Sort.ahead w k) g 0 l'.toArray) os) E go G Non (.slice a n c) l'/\Chg (λk=>go=some k) w (grow (putRowK Flat.enc (Rep.sz U) (Sort.ahead w k) g 0 l'.toArray) os):=by
 obtain⟨F,css,h1,h2,h3,h4,h5⟩:=h;rcases h2.2 with⟨hn,hz⟩|⟨g,cap,cur,hv,hb,hg,hnc,hcm,hcs,htake⟩
 ·simp_all
 obtain⟨rfl,rfl,rfl⟩:=hv;obtain rfl:=Kw h1;have hgo:go=some g:=by rw[<-h3];rfl
 have hgs:g<w.heap.size:=(ZbR.1 hg).1;have hfl:∀l':List U,(flatK Flat.enc (Rep.sz U) l'.toArray).toList=(l'.map Flat.enc).flatten:=λl'=>JI _ Gq h0 l';have hsz:∀l':List U,(flatK Flat.enc (Rep.sz U) l'.toArray).size=l'.length*Rep.sz U:=λl'=>by simp
 refine⟨rfl,g,rfl,hgs,Lx hg (by simp_all),λk os l' hlen=>?_⟩;have hgr:=Pn (w:=w) (g:=g) (n:=k) (os:=os) (flatK Flat.enc (Rep.sz U) l'.toArray);have hchg:Chg (λk=>go=some k) w (grow (putRowK Flat.enc (Rep.sz U) (Sort.ahead w k) g 0 l'.toArray) os):=
  ⟨hgr.os,hgr.tape,hgr.output,hgr.size,λk hk hn=>hgr.block k hk λe=>hn (by simp_all)⟩
 have htk:=Oo cur (flatK Flat.enc (Rep.sz U) l'.toArray) (by simp_all[ZcO]);rw[hsz,hfl]at htk;refine⟨⟨Non,l'.map Flat.enc,Ta _,⟨?_,.inr ⟨g,c,_,by rw[hlen],hb,LK _ hg,by omega,hcm,by simp_all[putCells],htk⟩⟩,h3,λg' hg'=>⟨(h4 g' hg').1,id⟩,λ_ h=>h.elim⟩,hchg⟩;grind
def SrtP(cf:U->U->Int)(l l':List U):Prop:=l'.Perm l/\l'.Pairwise λx y=>ltOf cf y x=false
omit [Flat U]in
def Za5{cf:U->U->Int}{l:List U}{d':Array U}(hp:PermIn 0 l.toArray.size l.toArray d')(hs:SortedIn (ltOf cf) 0 l.toArray.size d'):SrtP cf l d'.toList:=by
 obtain⟨h1,_,h3⟩:=hp;have e:d'.extract 0 l.toArray.size=d':=by rw[<-h1];simp
 rw[e]at h3;refine⟨by simpa using h3,ZcS.2 λi j hi hj hij=>?_⟩;have h:=hs i j (ZcA _) hij (by rw[<-h1];simpa using hj);rw[getElem!_pos d' i (by simpa using hi),getElem!_pos d' j (by simpa using hj)]at h;simpa using h
def Eb{P:Program}{ρ:Ren}(Ly:SlLaysF0.n6 P ρ){f g:Nat}(hf:ρ.f 6=f)(aE:∀w,(isAgg (ρ.t 24)).run P w= .ok true w)(zE:∀w,(Go.sizeOf (ρ.t 24)).run P w= .ok (Rep.sz U) w)(h0:0<Rep.sz U)(h1:∀x:U,∀v∈Flat.enc x,v.oneCell'=true)
  (cf:U->U->Int)(hO:SWO (ltOf cf))(eg:∀args w,(callFunc g args).run P w= .ok (.enter g args) w)
  (hcmp:∀(x y:U)W,Calls P g #[.agg (Flat.enc x).toArray,.agg (Flat.enc y).toArray] W λe w'=>e= .returned (.int .i64 (cf x y))/\∃q os',w'=grow (W.drewN q) os')
  {E:TypeId}{l:List U}(hl:l.length<4611686018427387904){a:Option Addr}{n c:Nat}:
  Con P f [.slice a n c,.func (.func g) #[] #[]] [SL E (.slice a n c) l] [] λ(i:{l':List U//SrtP cf l l'})=>([],[SL E (.slice a n c) i.1],[]):=by
 subst hf;intro w S F hs hfx hS hF hd;have hM:Mem w S F w S F:=Mem.start hS hF hd;obtain⟨hn,_⟩:=hs.relen 0 rfl;obtain⟨A,hok,hup⟩:=hs.upd 0 rfl hM;by_cases hz:n=0
 ·have hnil:l=[]:=Zcu (by omega);subst hz hnil;refine(AnyF.slices_SortFunc_none Ly a c (.func (.func g) #[] #[]) w).mono ?_;rintro e w' ⟨rfl,rfl⟩;exact⟨⟨[],List.Perm.nil,List.Pairwise.nil⟩,S,F,rfl,hM,hs,λR hR=>by cases hR⟩
 ·rcases hok with⟨go,ho⟩|⟨rfl,q,hq⟩
  ·obtain⟨rfl,b,rfl,hb,hH,hnext⟩:=ho.sortedF hz h0;have hc:CmpLays P g #[] Flat.enc (Rep.sz U) cf b 0 l.toArray.size w:=λm os dk _ x y=>hcmp x y _;refine(AnyQ.slices_SortFunc Ly (Rep.sz U) aE zE Flat.enc Gq h1 cf hO g #[] b 0 c l.toArray w eg hc hH hb (by omega)).mono ?_;rintro e w' ⟨rfl,d',m,os,hp,hsd,rfl⟩;have hsr:=Za5 hp hsd;obtain⟨g1,g2⟩:=hnext m os d'.toList (by simpa using hp.1);obtain⟨S',hp',hs'⟩:=hup (P':=SL E (.slice (some ⟨b,0,none⟩) l.length c) d'.toList) (g2.mono λk hk=>ho.inG hk) (.inl ⟨go,g1.regard λk _ hk=>.inl hk⟩);refine⟨⟨d'.toList,hsr⟩,S',F,rfl,?_,?_,λR hR=>by cases hR⟩
   ·simpa[sortWorldK]using hM.stp hp'
   simp_all[sortWorldK]
  simp_all
end
theorem Me:∀x:List UInt8,Op.bytesLess x x=false
 |[]=>rfl
 |a::x=>by simp[Op.bytesLess,Me x]
theorem QZ:∀x y z:List UInt8,Op.bytesLess x y=true->Op.bytesLess y z=true->Op.bytesLess x z=true
 |_,_,[]=>by simp[Op.bytesLess]
 |_,[],_::_=>by simp[Op.bytesLess]
 |[],_::_,_::_=>by intro _ _;rfl
 | a::x,b::y,c::z=>by
  intro h1 h2;simp only[Op.bytesLess,Zcr,Zb8,Zbt,ZcF]at h1 h2⊢;rcases h1 with h1|⟨rfl,h1⟩
  ·grind
  ·rcases h2 with h2|⟨rfl,h2⟩
   ·exact .inl h2
   ·exact .inr ⟨rfl,QZ x y z h1 h2⟩
theorem Mr:∀x y:List UInt8,Op.bytesLess x y=false->x≠y->Op.bytesLess y x=true
 |[],[]=>λ_ h=>absurd rfl h
 |_::_,[]=>λ_ _=>rfl
 |[],_::_=>λh _=>by simp_all[Op.bytesLess]
 | a::x,b::y=>by
  intro h1 h2;simp only[Op.bytesLess,Zd5,decide_eq_false_iff_not,Zcr,Zb8,Zbt,ZcF]at h1⊢;by_cases e:a=b
  ·subst e;have:Op.bytesLess x y=false:=by simp_all
   exact .inr ⟨rfl,Mr x y this (λh=>h2 (by rw[h]))⟩
  grind
theorem EX(a b:Str):Str.ltb a b=Op.bytesLess a.bytes b.bytes:=by simp[Str.ltb,Go.Lib.toList_data]
theorem Tp(a:Str):Str.ltb a a=false:=by simp[EX,Me]
theorem Tc{a b c:Str}(h1:Str.ltb a b=true)(h2:Str.ltb b c=true):Str.ltb a c=true:=by grind[EX,QZ]
theorem Lv{a b:Str}(h1:Str.ltb a b=false)(h2:a≠b):Str.ltb b a=true:=by
 exact Mr _ _ h1 λe=>h2 (by cases a;simp_all)
abbrev ltV(a b:D.Value):Prop:=Str.ltb a.Name b.Name=true
theorem Sg:∀m:List (Str×Int),(vtab m).Pairwise ltV
 |[]=>List.Pairwise.nil
 |(s,w)::m=>by
  have ih:=Sg m;unfold vtab;rw[ZbI,Zdr];refine⟨ih.filter _,?_,λa ha b hb=>?_⟩
  ·grind
  ·all_goals grind[Tc]
theorem Sr(v:D.Value):∀m:List (Str×Int),v∈vtab m↔m.lookup v.Name=some v.W/\v.N=0
 |[]=>by simp[vtab]
 | (s,w)::m=>by
  have ih:=Sr v m;unfold vtab;simp only[Zb7,ZbS,Zb3,ih,Zcc];by_cases e:v.Name=s
  ·subst e;simp only[Tp,Zbp,and_false,false_or,or_false,ZcY,Option.some.injEq];constructor
   ·grind
   ·cases v;simp_all
  ·have e':(v.Name==s)=false:=by simpa using e
   rw[e'];have hne:v≠⟨s,w,0⟩:=λh=>e (by rw[h]);by_cases h:Str.ltb v.Name s=true
   all_goals simp_all[Zfr,or_false,id,Lv]
theorem De:∀{l l':List D.Value},l.Pairwise ltV->l'.Pairwise ltV->(∀v,v∈l↔v∈l')->l=l'
 |[],[],_,_,_=>rfl
 |[],y::l',_,_,h=>by grind[List.mem_cons_self]
 |x::l,[],_,_,h=>by grind[List.mem_cons_self]
 | x::l,y::l',h1,h2,h=>by
  rw[ZcW]at h1 h2;have hxy:x=y:=by
   grind[List.mem_cons_self,Tc,Tp]
  congr 1;refine De h1.2 h2.2 λv=>?_;have:=h v;simp only[ZbN]at this;constructor
  ·intro hv;rcases this.1 (.inr hv)with e|hv'
   ·have h3:=h1.1 v hv;simp_all[ltV,Tp]
   ·exact hv'
  ·intro hv;rcases this.2 (.inr hv)with e|hv'
   ·have h3:=h2.1 v hv;simp_all[ltV,Tp]
   ·exact hv'
def cmpS(a b:Str):Int:=if Str.ltb a b then-1 else if Str.gtb a b then 1 else 0
def cmpV(x y:D.Value):Int:=cmpS x.Name y.Name
theorem Za8(a b:Str):Str.gtb a b=Str.ltb b a:=by
 have h:Str.gtb a b= !(Str.ltb a b||Str.eqb a b):=rfl;by_cases e:a=b
 ·simp_all[Tp,Str.eqb]
 ·have he:Str.eqb a b=false:=by
   unfold Str.eqb;have:a.bytes≠b.bytes:=λh=>e (by cases a;simp_all);simp_all
  grind[Str.ltb,Tc,Tp,Lv]
theorem PI(x y:D.Value):Go.Proofs.ltOf cmpV x y=Str.ltb x.Name y.Name:=by
 grind[Go.Proofs.ltOf,cmpV,cmpS,Za8,Str.ltb]
def swoV:Go.Sort.SWO (Go.Proofs.ltOf cmpV)where
 irrefl x:=by simp[PI,Tp]
 trans x y z h1 h2:=by grind[PI,Tc]
 ntrans x y z h1 h2:=by
  grind[PI,Str.ltb,Lv,Tc]
theorem Iz:∀{l l':List D.Value},(l.Pairwise λa b=>a.Name≠b.Name)->(∀v∈l,v∈l')->l.length<=l'.length
 |[],_,_,_=>ZcA _
 | x::l,l',hn,h=>by
  rw[ZcW]at hn;obtain⟨s,t,rfl⟩:=List.append_of_mem (h x Zcd);have:=Iz (l:=l) (l':=s++t) hn.2 λv hv=>by
   grind
  grind
theorem Qc:∀m:List (Str×Int),(vtab m).length<=m.length
 |[]=>Zb0 _
 | (s,w)::m=>by
  have ih:=Qc m;have key:∀l:List D.Value,(l.filter λv=>Str.ltb v.Name s).length+(l.filter λv=>Str.ltb s v.Name).length<=l.length:=by
   intro l
   induction l with
   |nil=>simp
   |cons v l ihl=>
    grind[Str.ltb,Tc,Tp]
  grind[vtab]
def oP(b:Bool)(k:Nat):Value:=cond b (B k 0) (.pointer none)
def HP.on(b:Bool)(l:List HP):HP:=cond b (HP.sep l) (HP.pure True)
section
variable{P:Program}{B:Bs}{N:Nat}{Z:List (Nat×Value)}{Γ:List HP}{Φ:List RF}{a:Act}{w:World}{K:Act->World->Prop}{Q:Exit->Act->World->Prop}{ops:Array Oper}{k d:Nat}{ty t:TypeId}{pos:String}{af:Array Edge}
def Cx.opn{b:Bool}{l:List HP}(i:Nat)(hb:b=true)(c:Cx B N Z Γ Φ a w)(hi:Γ[i]? =some (HP.on b l):=by rfl):Cx B N Z (rest [i] Γ++l) Φ a w:=by
 subst hb;exact c.flat i hi
def Cx.onf(c:Cx B N Z Γ Φ a w):Cx B N Z (Γ++[HP.pure True]) Φ a w:=c.gam λS h=>ZL (Γ2:=[HP.pure True]) (Γ:=Γ) (by
 exact Sep.mk_cons (P:=HP.pure True) (A:=Non) (B:=S) True.intro h (λ_ h _=>h.elim) (λ_ h=>h.elim) λ_ h=>h)
def Cx.onp(l:List HP)(gs:List Nat)(c:Cx B N Z Γ Φ a w)(hL:gs.map (λi=>Γ[i]?)=l.map some:=by rfl)(hn:gs.Nodup:=by decide):Cx B N Z (rest gs Γ++[HP.on true l]) Φ a w:=c.pack (H:=HP.sep l) l gs (λ_ h=>h) hL hn
def Cx.eli{v:Value}{l:List Int}{n x:Int}(c:Cx B N Z Γ Φ a w)(hl:Ava [] Φ w (RO v l))(hx:get? l n=some x):∃p,Cx B N Z Γ (Φ++[EA Int v n p (.int .i64 x)]) a w:=by
 obtain⟨p,u,hF,S,F,h1,h2,h3⟩:=c.elp hl hx;have hr:RV w F u x:=h3 (RO u x) (by simp);have e:u= .int .i64 x:=hr.flat;refine⟨p,hF,S,F,h1,h2,λR hR=>h3 R ?_⟩;grind
def Ih{x y:Code}{o:Operand}{β:Type}{X Y:Option β}{r:Option β}{b:Bool}(c:Cx B N Z Γ Φ a w)(h:(if b=true then X else Y)=r)(ht:b=true->X=r->x.wp P Q a w)(hf:b=false->Y=r->y.wp P Q a w)(hb:opd Z o=some (.bool b):=by kernel_rfl):
  (Code.cond o x y).wp P Q a w:=IZ c.fr hb (λhb=>ht hb (iteT hb h)) λhb=>hf hb (iteF hb h)
def bT{b:Bool}(h:(!b)=false):b=true:=by simpa using h
theorem Ebu{v:Value}{parts:Array (Nat×Operand)}(vs:Array (Nat×Value))(c:Cx B N Z Γ Φ a w)(h:∀fr,Cx B N ((d,v)::Z) Γ Φ fr w->wpFrom P ops Q (k+1) fr w)(ho:ops[k]? =some ⟨some d,.build t parts,ty,pos,af,none⟩:=by rfl)(hd:Nat.blt d N=true:=by rfl)
  (hp:parts.toList.map (λp=>(p.1,opd Z p.2))=vs.toList.map (λp=>(p.1,some p.2)):=by kernel_rfl)(hr:∀w,(Instr.build t vs).run P w= .ok v w:=by intro _;kernel_rfl):wpFrom P ops Q k a w:=by
 have hpv:parts.map (λp=>(p.1,a.eval p.2))=vs:=by
  apply Array.ext';rw[Array.toList_map];have:∀(l:List (Nat×Operand))(m:List (Nat×Value)),l.map (λp=>(p.1,opd Z p.2))=m.map (λp=>(p.1,some p.2))->l.map (λp=>(p.1,a.eval p.2))=m:=by
   intro l
   induction l with
   |nil=>simp
   | cons p l ih=>
    intro m hm;cases m with
    |nil=>cases hm
    |cons q m=>
     simp only[Zb1,List.cons.injEq,Prod.mk.injEq]at hm;obtain⟨⟨h1,h2⟩,h3⟩:=hm;rw[Zb1,ih m h3,Zg c.fr h2,h1]
  grind
 exact ZE c.fr ho rfl rfl (ZbZ.mp hd) (R:=λq w1=>q=v/\w=w1) (Zi (by simp_all[execOp]) ⟨rfl,rfl⟩) λq w1 fr hq hF'=>by
  obtain⟨rfl,rfl⟩:=hq;exact h fr (c.to hF')
def Eai{x y:Operand}{u v r n:Int}(c:Cx B N Z Γ Φ a w)(hz:get? [u,v] n=some r)(h:∀fr,Cx B N ((d,.int .i64 r)::Z) Γ Φ fr w->wpFrom P ops Q (k+1) fr w)(ho:ops[k]? =some ⟨some d,.index t x y,ty,pos,af,none⟩:=by rfl)(hd:Nat.blt d N=true:=by rfl)
  (hx:opd Z x=some (.agg #[.int .i64 u,.int .i64 v]):=by kernel_rfl)(hy:opd Z y=some (.int .i64 n):=by kernel_rfl)(h0:∀w,(Instr.index t (.agg #[.int .i64 u,.int .i64 v]) (.int .i64 0)).run P w= .ok (.int .i64 u) w:=by intro _;kernel_rfl)
  (h1:∀w,(Instr.index t (.agg #[.int .i64 u,.int .i64 v]) (.int .i64 1)).run P w= .ok (.int .i64 v) w:=by intro _;kernel_rfl):wpFrom P ops Q k a w:=by
 have hn:=get?_nn hz;have hat:=get?_at hz;have hr:(Instr.index t (.agg #[.int .i64 u,.int .i64 v]) (.int .i64 n)).run P w= .ok (.int .i64 r) w:=by
  grind
 exact ZE c.fr ho rfl rfl (ZbZ.mp hd) (R:=λq w1=>q= .int .i64 r/\w=w1) (Zi (by simp only[execOp];rw[Zg c.fr hx,Zg c.fr hy];simp[hr]) ⟨rfl,rfl⟩) λq w1 fr hq hF'=>by
  obtain⟨rfl,rfl⟩:=hq;exact h fr (c.to hF')
end
structure JP where
 z:Int
 h:Hd
instance:Rep JP where
 sz:=2
 agg:=true
 ok:=λw F cs x=>cs=[.int .i64 x.z,x.h.v]
 len:=by simp
 one:=by rintro w F cs x rfl u hu;simp at hu;rcases hu with rfl|rfl<;>rfl
 pos:=by decide
 sgl:=λh=>by cases h
 keep:=λh _=>h
instance:Flat JP where
 enc:=λx=>[.int .i64 x.z,x.h.v]
 iff:=Iff.rfl
def PK(E:TypeId)(v:Value){β:Type}(xs:List β):HP:=.ex λraws:List JP=>.two (.pure (raws.length=xs.length)) (SL E v raws)
theorem PK.intro{E:TypeId}{v:Value}{β:Type}{xs:List β}{raws:List JP}{L:List HP}{w:World}{S:Nat->Prop}(hl:raws.length=xs.length)(h:Sep (SL E v raws::L) w S):Sep (PK E v xs::L) w S:=
 h.imp λA hA=>⟨raws,Non,A,hl,hA,λ_ h _=>h.elim,λ_ h=>h.elim (λh=>h.elim) id⟩
def PK.elim{E:TypeId}{v:Value}{β:Type}{xs:List β}{L:List HP}{w:World}{S:Nat->Prop}(h:Sep (PK E v xs::L) w S):∃raws:List JP,raws.length=xs.length/\Sep (SL E v raws::L) w S:=by
 obtain⟨A,R,⟨raws,B,C,h1,h2,h3,h4⟩,k2,k3,k4,k5⟩:=h.cons_ok;exact⟨raws,h1,Sep.mk_cons h2 k2 (λk hc hr=>k3 k (h4 k (.inr hc)) hr) (λk hc=>k4 k (h4 k (.inr hc))) k5⟩
section
variable{P:Program}{B:Bs}{N:Nat}{Z:List (Nat×Value)}{Γ:List HP}{Φ:List RF}{a:Act}{w:World}{K:Act->World->Prop}{Q:Exit->Act->World->Prop}{ops:Array Oper}{k d d2:Nat}{ty ty2 t t1 t':TypeId}{pos pos2:String}{af af2:Array Edge}
theorem Cx.pkn{β:Type}(E:TypeId)(c:Cx B N Z Γ Φ a w):Cx B N Z (Γ++[PK E (.slice none 0 0) ([]:List β)]) Φ a w:=(c.nil (U:=JP) E).gam λS h=>by
 have h2:=h.part [Γ.length] (Γ1:=[SL E (.slice none 0 0) ([]:List JP)]) (by simp) (by simp);have h3:=PK.intro (xs:=([]:List β)) rfl h2;have h4:rest [Γ.length] (Γ++[SL E (.slice none 0 0) ([]:List JP)])=Γ:=by
  have h:∀(L:List HP)(j:Nat)(x:HP),restG [j+L.length] j (L++[x])=L:=by
   intro L
   induction L with
   |nil=>simp[cond,memN,Nat.beq_refl,restG]
   |cons y L ih=>
    intro j x;have e:memN [j+(y::L).length] j=false:=by simp[PT]
    show cond (memN [j+(y::L).length] j) _ _=_;rw[e];show y::restG [j+(y::L).length] (j+1) (L++[x])=y::L;rw[show j+(y::L).length=(j+1)+L.length from by simp;omega,ih]
  have:=h Γ 0 (SL E (.slice none 0 0) ([]:List JP));rw[Zdc]at this;exact this
 simp_all[ZL,PK]
def Cx.pke{β:Type}{E:TypeId}{v:Value}{xs:List β}(i:Nat)(c:Cx B N Z Γ Φ a w)(hi:Γ[i]? =some (PK E v xs)):∃raws:List JP,raws.length=xs.length/\Cx B N Z (SL E v raws::rest [i] Γ) Φ a w:=by
 obtain⟨h,S,F,h1,h2,h3⟩:=c;have hp:=h2.part [i] (Γ1:=[PK E v xs]) (by simp[hi]) (by simp);obtain⟨raws,e,hs⟩:=PK.elim hp;exact⟨raws,e,h,S,F,h1,hs,h3⟩
def Df{β:Type}{xs r:List β}{q:β}{raws:List JP}{j:JP}(hl:raws.length=xs.length)(hr:app? xs [q]=some r):app? raws [j]=some (raws++[j])/\(raws++[j]).length=r.length:=by
 grind[app?]
theorem Epk2{β:Type}{E:TypeId}{v:Value}{xs r:List β}{q:β}(z:Int)(hdr:Hd){parts:Array (Nat×Operand)}{x:Operand}(i:Nat)(c:Cx B N Z Γ Φ a w)(hr:app? xs [q]=some r)
  (h:∀u a' c' fr w',Cx B N ((d2,.slice a' (List.length r) c')::(d,u)::Z) (rest [i] Γ++[PK E (.slice a' (List.length r) c') r]) Φ fr w'->wpFrom P ops Q (k+2) fr w')(hi:Γ[i]? =some (PK E v xs):=by rfl)
  (ho:ops[k]? =some ⟨some d,.buildSlice t 1 parts,ty,pos,af,none⟩:=by rfl)(hd:Nat.blt d N=true:=by rfl)(hv:parts.toList.map (λp=>opd Z p.2)=[some (.agg #[.int .i64 z,hdr.v])]:=by kernel_rfl)
  (hrun:∀w,(Instr.buildSlice t 1 ((parts.toList.map (·.1)).zip [Value.agg #[.int .i64 z,hdr.v]]).toArray).run P w= .ok (.slice (some ⟨w.heap.size,0,none⟩) 1 1) (w.alloc (.cells #[.int .i64 z,hdr.v] E)):=by intro _;kernel_rfl)
  (ho2:ops[k+1]? =some ⟨some d2,.call ⟨.builtin .append,#[x,.tmp d],#[t1,t']⟩,ty2,pos2,af2,none⟩:=by rfl)(htt:t'=t1:=by rfl)(hd2:Nat.blt d2 N=true:=by rfl)(hx0:(match x with|.tmp s=>s !=d|_=>true)=true:=by rfl)
  (he:ElT P E JP:=by refine elT ?_;kernel_rfl)(ht:P.underlying t1=some (.slice E):=by kernel_rfl)(hx:opd Z x=some v:=by kernel_rfl):wpFrom P ops Q k a w:=by
 obtain⟨raws,hl,c⟩:=c.pke i hi;obtain⟨g1,g2⟩:=Df (j:=(⟨z,hdr⟩:JP)) hl hr;have e1:([(⟨z,hdr⟩:JP)].map λx=>Rep.val JP (Flat.enc x))=[Value.agg #[.int .i64 z,hdr.v]]:=rfl;have e2:([(⟨z,hdr⟩:JP)].map Flat.enc).flatten.toArray= #[.int .i64 z,hdr.v]:=rfl;have hv':parts.toList.map (λp=>opd Z p.2)=([(⟨z,hdr⟩:JP)].map λx=>Rep.val JP (Flat.enc x)).map some:=by simp_all
 have hrun':∀w,(Instr.buildSlice t 1 ((parts.toList.map (·.1)).zip ([(⟨z,hdr⟩:JP)].map λx=>Rep.val JP (Flat.enc x))).toArray).run P w= .ok (.slice (some ⟨w.heap.size,0,none⟩) 1 1) (w.alloc (.cells ([(⟨z,hdr⟩:JP)].map Flat.enc).flatten.toArray E)):=by
  simp_all
 refine Elt (U:=JP) E [⟨z,hdr⟩] c (λa1 c1 fr w1 c=>?_) ho hd rfl rfl hv' hrun';have hx':opd ((d,Value.slice a1 (List.length [(⟨z,hdr⟩:JP)]) c1)::Z) x=some v:=by
  cases x with
  |tmp s=>
   have hne:(s==d)=false:=by simp_all
   show List.lookup s ((d,_)::Z)=_;rw[Zcc,hne];exact hx
  |_=>exact hx
 refine Eap (U:=JP) (E:=E) (v:=v) (l:=raws) (m:=[⟨z,hdr⟩]) (r:=raws++[⟨z,hdr⟩]) 0 c (Ava.g (E:=E) (v:=Value.slice a1 (List.length [(⟨z,hdr⟩:JP)]) c1) (l:=[(⟨z,hdr⟩:JP)]) ((SL E v raws::rest [i] Γ).length) (by simp)) g1 (λa2 c2 fr w2 c=>?_) rfl ho2 htt hd2 he ht hx' (u:=Value.slice a1 (List.length [(⟨z,hdr⟩:JP)]) c1) (by show List.lookup d ((d,Value.slice a1 (List.length [(⟨z,hdr⟩:JP)]) c1)::Z)=some _;simp);rw[g2]at c;refine h _ a2 c2 fr w2 (c.gam λS hs=>ZL (Γ2:=[PK E (.slice a2 (List.length r) c2) r]) ?_);obtain⟨A,R,h1,h2,h3,h4,h5⟩:=hs.cons_ok;obtain⟨A',R',k1,k2,k3,k4,k5⟩:=Sep.split (L1:=rest [i] Γ) h2;grind[PK.intro,Sep.mk_cons]
end
end Go.GL
end
