/- Texts of this claim put into one: library or plain laws, without the program under test. -/
import Derived.Test.YthlolmkdppfioaaGreatLib3
import Derived.Maps.RangeWalk
import Derived.Shelf.SlSortCmp.NoneTotal
import Derived.Lib.Strings
set_option linter.unusedSimpArgs false
set_option linter.unusedVariables false
section
set_option linter.unusedVariables false
namespace Go.GL
open Go.RowKit
instance {α:Type} [Rep α]:RawOf Hd (List α) where
 sz:=rfl
 agg:=rfl
 ex:=fun {w F cs x} h=>by
  have h1:RV w F (Rep.val (List α) cs) x:=⟨cs,h,rfl⟩
  obtain ⟨a,c,e,_⟩:=RV.slice h1
  have hl:=Rep.len h
  match cs,hl with
  | [u],_=>exact ⟨⟨a,x.length,c⟩,by rw [show u = .slice a x.length c from e]; rfl⟩
def mapSV (P:Program) (k e:TypeId) {ρ:Type} [Flat ρ] (z0:ρ) (hk:P.underlying k = some .string) (hzero:∀ w,(zeroValue e).run P w = .ok (Rep.val ρ (Flat.enc z0)) w):MapT P k e Str ρ where
 R v:=some (.held v,[])
 fit:=fitS
 lit x:=.string x.bytes
 dv y:=.held (Rep.val ρ (Flat.enc y))
 zero:=z0
 efit:=fun _=>true
 zfit:=rfl
 keyed:=Maps.string_keyed hk
 key x h:=by
  have h:x.bytes.length ≤ 9223372036854775807:=of_decide_eq_true h
  have h2:(Rep.val Str (Flat.enc x)) = .string ⟨x.bytes.toArray⟩:=rfl
  unfold keyOf
  rw [hk,h2]
  simp only [mapKey,hk]
  have h3:(ByteArray.mk x.bytes.toArray).size ≤ maxLen:=by show x.bytes.toArray.size ≤ _; simpa [maxLen] using h
  simp [h3]
 inj x y _ _ h:=by
  simp only [Lit.string.injEq] at h
  cases x; cases y; simpa using h
 elem y _:=rfl
 back v y ps h:=by
  simp only [Option.some.injEq,Prod.mk.injEq,DataW.held.injEq] at h
  exact h.1
 hz:=hzero
theorem ZlP {P:Program} {e:TypeId} (h:(P.info? e).map (·.zero) = some (some (.slice none 0 0))) (w:World):(zeroValue e).run P w = .ok (Rep.val Hd (Flat.enc (⟨none,0,0⟩ : Hd))) w:=by
 show (zeroValue e).run P w = .ok (.slice none 0 0) w
 cases hi:P.info? e with
 | none=>rw [hi] at h; cases h
 | some i=>
  rw [hi] at h
  simp only [ZnM,Option.some.injEq] at h
  simp [zeroValue,typeInfo,hi,h]
section
variable {P:Program} {K V:TypeId} {κ ρ α:Type} [Flat κ] [Flat ρ] [Rep α] [RawOf ρ α] [DecidableEq κ]
def CM (w:World) (F:Nat → Prop) (rs:List (κ × ρ)) (xs:List (κ × α)):Prop:=rs.map (·.1) = xs.map (·.1) ∧ Css w F ((rs.map (·.2)).map Flat.enc) (xs.map (·.2))
def MV (T:MapT P K V κ ρ) (v:Value) (m:Option (List (κ × α))):RF where
 ok w F:=∃ m':Option (List (κ × ρ)),(OM T v m').ok w F ∧ CM w F (m'.getD []) (m.getD [])
 sub:=fun ⟨m',h1,h2,h3⟩ hs=>⟨m',(OM T v m').mono h1 hs,h2,h3.keep fun k hk hf=>⟨rfl,hs k hk hf⟩⟩
 chg:=fun ⟨m',h1,h2,h3⟩ hc ht=>⟨m',(OM T v m').keep h1 hc ht,h2,h3.keep fun k hk hf=>⟨hc.block k hk (ht k hf),hf⟩⟩
def MD (T:MapT P K V κ ρ) (own:ρ → α → HP) (b:Nat) (xs:List (κ × α)):HP:=.ex fun rs:List (κ × ρ)=>.two (MP T b rs) (.two (.pure (rs.map (·.1) = xs.map (·.1))) (.all own (rs.map (·.2)) (xs.map (·.2))))
omit [RawOf ρ α] in
theorem Zmk {own:ρ → α → HP} (ho:Owns own) {w:World} {A:Nat → Prop} {rs:List ρ} {xs:List α} (h:(HP.all own rs xs).ok w A):Css w A (rs.map Flat.enc) xs:=by
 have hl:=Za1 h
 refine ⟨by simp [hl],fun i cs x hcs hx=>?_⟩
 rw [ZnW] at hcs
 cases hr:rs[i]? with
 | none=>rw [hr] at hcs; cases hcs
 | some q=>
  rw [hr] at hcs
  obtain rfl:=Option.some.inj hcs
  exact ho.rv _ _ _ _ (Za2 h hr hx)
omit [RawOf ρ α] [Flat κ] in
theorem ZjQ {w:World} {F:Nat → Prop} {z:ρ} {zx:α} (hz:Rep.ok w F (Flat.enc z) zx) {q:κ}:∀ {rs:List (κ × ρ)} {xs:List (κ × α)},CM w F rs xs → Rep.ok w F (Flat.enc (mget z rs q)) (mget zx xs q)
 | [],[],_=>hz
 | [],_ :: _,h=>by have:=h.1; simp at this
 | _ :: _,[],h=>by have:=h.1; simp at this
 | (a,r) :: rs,(b,x) :: xs,h=>by
  have h1:a = b ∧ rs.map (·.1) = xs.map (·.1):=by have:=h.1; simpa using this
  obtain ⟨rfl,h2⟩:=h1
  have hh:Rep.ok w F (Flat.enc r) x:=h.2.2 0 _ _ rfl rfl
  have ht:CM w F rs xs:=⟨h2,by have:=h.2.1; simpa using this,fun i cs y hc hy=>h.2.2 (i + 1) cs y (by simpa using hc) (by simpa using hy)⟩
  unfold mget
  by_cases c:q = a
  ·subst c; simpa [List.lookup] using hh
  ·have c' : (q == a) = false := by simpa using c
   simp only [List.lookup,c']
   exact ZjQ hz ht
variable {B:Bs} {N:Nat} {σ:List (Nat × Value)} {Γ:List HP} {Φ:List RF} {a:Act} {w:World} {Q:Exit → Act → World → Prop} {T:MapT P K V κ ρ} {own:ρ → α → HP}
  {ops:Array Oper} {k d b:Nat} {t ty:TypeId} {pos:String} {af:Array Edge} {x y z:Operand} {v:Value}
omit [RawOf ρ α] in
theorem MD.mv (ho:Owns own) {A:Nat → Prop} {xs:List (κ × α)} (h:(MD T own b xs).ok w A):(MV T (.map (some b)) (some xs)).ok w A:=by
 obtain ⟨rs,h⟩:=h
 have h1:=ZaP h
 have h2:=Zaz h
 exact ⟨some rs,⟨b,rfl,h1.1,h1.2⟩,ZaP h2,Zmk ho (Zaz h2)⟩
omit [RawOf ρ α] in
theorem Ava.md (ho:Owns own) {xs:List (κ × α)} (i:Nat) (hi:Γ[i]? = some (MD T own b xs):=by rfl):Ava Γ Φ w (MV T (.map (some b)) (some xs)):=fun S F hs hf=>by
 obtain ⟨A,h1,h2⟩:=hs.get i hi
 exact (MV T (.map (some b)) (some xs)).sub (MD.mv ho h1) fun k _ hk=>.inr (h2 k hk)
omit [RawOf ρ α] [Rep α] in
theorem Emmd (T:MapT P K V κ ρ) (own:ρ → α → HP) (c:Cx B N σ Γ Φ a w) (h:∀ b fr w',Cx B N ((d,.map (some b)) :: σ) (Γ ++ [MD T own b []]) Φ fr w' → wpFrom P ops Q (k + 1) fr w') (ho:ops[k]? = some ⟨some d,.makeMap t none,ty,pos,af,none⟩:=by rfl) (hd:Nat.blt d N = true:=by rfl)
  (hm:∀ w,(Instr.makeMap t none).run P w = .ok (.map (some w.heap.size)) (w.alloc (.map #[] 0)):=by exact fun w=>by simp [Instr.makeMap,run_newObj_alloc]):wpFrom P ops Q k a w:=by
 obtain ⟨hF,S,F,hM,hs,hf⟩:=c
 refine ZeW T hs hM hm ho hd hF fun b w' S' fr hs' hp hF'=>h b fr w' ⟨hF',S',F,hM.stp hp,ZE (Γ2:=[_]) (Sep.imp hs' fun A hA=>?_),hf.chg hp.chg fun k hk hS=>hM.dj k hS hk⟩
 exact ⟨[],Zcf hA (Zcf (rfl:(HP.pure _).ok w' Non) trivial)⟩
omit [Rep α] [RawOf ρ α] in
theorem Emd {q:κ} {r:ρ} {e:α} {m m':List (κ × α)} {fit:κ → Bool} (i j:Nat) (c:Cx B N σ Γ Φ a w) (hr:mput? fit m q e = some m') (h:∀ w',Cx B N σ (rest [i,j] Γ ++ [MD T own b m']) Φ a w' → wpFrom P ops Q (k + 1) a w') (hi:Γ[i]? = some (MD T own b m):=by rfl) (hj:Γ[j]? = some (own r e):=by rfl) (hne:[i,j].Nodup:=by decide) (hfit:T.fit = fit:=by rfl) (hzz:∀ y,T.efit y = true:=by exact fun _=>rfl)
  (ho:ops[k]? = some ⟨none,.mapUpdate t x y z,ty,pos,af,none⟩:=by rfl) (ht:P.underlying t = some (.map K V):=by kernel_rfl) (hx:opd σ x = some (.map (some b)):=by kernel_rfl) (hy:opd σ y = some (Rep.val κ (Flat.enc q)):=by kernel_rfl) (hz:opd σ z = some (Rep.val ρ (Flat.enc r)):=by kernel_rfl):wpFrom P ops Q k a w:=by
 obtain ⟨hF,S,F,hM,hs,hf⟩:=c
 subst hfit
 have hp:=hs.part [i,j] (Γ1:=[MD T own b m,own r e]) (by simp [hi,hj]) hne
 obtain ⟨rs,hp⟩:=Sep.open (L:=own r e :: rest [i,j] Γ) hp
 have hl:rs.length = m.length:=by
  have:=hp.two.get 1 rfl
  obtain ⟨A,hA,_⟩:=this
  have:=Za1 (Zaz hA)
  simpa using this
 refine ZeD T 0 hp.two hM rfl ht ho hF (u:=q) (mput?_fit hr) r (hzz r) (by rw [hl]; exact mput?_len hr) hx hy rfl hz rfl fun w' S' hs' hpp hF'=>h w' ⟨hF',S',F,hM.stp hpp,ZE (Γ2:=[_]) ?_,hf.chg hpp.chg fun k hk hS=>hM.dj k hS hk⟩
 have hs':Sep (MP T b ((q,r) :: rs) :: (HP.two (.pure (rs.map (·.1) = m.map (·.1))) (.all own (rs.map (·.2)) (m.map (·.2)))) :: own r e :: rest [i,j] Γ) w' S':=hs'
 obtain ⟨A,B',h1,h2,h3,h4,h5⟩:=hs'.cons_ok
 obtain ⟨he,h2⟩:=(h2.two).fact
 have h6:=Sep.merge (R:=HP.all own (r :: rs.map (·.2)) (e :: m.map (·.2))) h2 fun A hA=>Zbk hA
 have h7:=Sep.mk_cons (S:=S') h1 h6 h3 h4 h5
 refine Sep.merge h7 fun A hA=>?_
 rw [mput?_val hr]
 obtain ⟨B1,C1,g1,g2,g3,g4⟩:=hA
 exact ⟨(q,r) :: rs,B1,C1,g1,Zi4 g2 (show (HP.pure _).ok w' Non by show List.map _ _ = List.map _ _; simp [he]),g3,g4⟩
omit [Flat κ] [Flat ρ] [RawOf ρ α] [DecidableEq κ] in
theorem Zm5 {w:World} {F:Nat → Prop}:Rep.ok w F [.slice none 0 0] ([]:List α):=RV.one rfl (RV.mk_slice (l:=([]:List α)) (ZnK _) (ZoW _) fun h=>absurd rfl h)
omit [Flat κ] [DecidableEq κ] in
theorem ZmH {w:World} {F:Nat → Prop} {r:ρ} {x:α} (h:Rep.ok w F (Flat.enc r) x):RV w F (Rep.val ρ (Flat.enc r)) x:=⟨_,h,by unfold Rep.val; rw [RawOf.agg (ρ:=ρ) (α:=α)]⟩
theorem Erv {q:κ} {r:α} {m:Option (List (κ × α))} {fit:κ → Bool} {zz:α} (c:Cx B N σ Γ Φ a w) (hl:Ava [] Φ w (MV T v m)) (hr:mgeto? fit zz m q = some r) (h:∀ u fr,Cx B N ((d,u) :: σ) Γ (Φ ++ [RO u r]) fr w → wpFrom P ops Q (k + 1) fr w) (hfit:T.fit = fit:=by rfl) (hzz:∀ w F,Rep.ok w F (Flat.enc T.zero) zz:=by intro w F; exact Zm5)
  (ho:ops[k]? = some ⟨some d,.lookup t x y false,ty,pos,af,none⟩:=by rfl) (hd:Nat.blt d N = true:=by rfl) (ht:P.underlying t = some (.map K V):=by kernel_rfl) (hx:opd σ x = some v:=by kernel_rfl) (hy:opd σ y = some (Rep.val κ (Flat.enc q)):=by kernel_rfl):wpFrom P ops Q k a w:=by
 subst hfit
 obtain ⟨hF,S,F,hM,hs,hf⟩:=c
 obtain ⟨m',h1,h2⟩:=Ava.ro hl hf
 have hrv:Rep.ok w F (Flat.enc (mget T.zero (m'.getD []) q)) r:=by rw [← mget?_val hr]; exact ZjQ (hzz w F) h2
 have go:∀ fr,FrS N ((d,Rep.val ρ (Flat.enc (mget T.zero (m'.getD []) q))) :: σ) fr → wpFrom P ops Q (k + 1) fr w:=fun fr hF'=>h _ fr ⟨hF',S,F,hM,hs,hf.add (ZmH hrv)⟩
 cases m' with
 | some l=>
  obtain ⟨b,rfl,g1,g2⟩:=h1
  exact ZkY T 0 (Sep.of_ok (A:=F) (P:=MP T b l) ⟨g1,g2⟩) rfl ht ho hd hF (u:=q) (mget?_fit hr) hx hy rfl rfl go
 | none=>
  obtain rfl:v = .map none:=h1
  refine Zz hF ho rfl rfl (Zon.mp hd) (R:=fun z w1=>z = Rep.val ρ (Flat.enc T.zero) ∧ w1 = w) (Zh ?_ ⟨rfl,rfl⟩) fun z w1 fr hz hF'=>?_
  ·have hkey := T.key q (mget?_fit hr)
   have hck:=T.keyed.check w true hkey
   have hfd:(Instr.findKey K (Rep.val κ (Flat.enc q)) []).run P w = .ok none w:=by
    rcases T.keyed.find w hkey [] (fun e he=>by cases he) with h | ⟨j,e,_,h,_⟩
    ·exact h.1
    ·cases h
   simp [execOp,Instr.lookup,Zd hF hx,Zd hF hy,run_underlying ht,hck,hfd,Result.andThen,T.hz]
  ·obtain ⟨rfl,rfl⟩:=hz; exact go fr hF'
end
section
variable {P:Program} {B:Bs} {N:Nat} {σ:List (Nat × Value)} {Γ:List HP} {Φ:List RF} {a:Act} {w:World} {Q:Exit → Act → World → Prop}
  {ops:Array Oper} {k d:Nat} {t t' ty:TypeId} {pos:String} {af:Array Edge} {x y:Operand} {α:Type} [Flat α] {E:TypeId} {l r m:List α} {b a':Option Addr} {n0 cp c':Nat} {lo n:Int} {u:Value}
omit [Flat α] in
theorem ZgT (h:cut? l lo n = some r):r = vcut l lo r.length ∧ lo.toNat + r.length ≤ l.length:=by
 unfold cut? at h
 split at h
 ·rename_i hb
  obtain rfl:=Option.some.inj h
  unfold vcut
  refine ⟨?_,by rw [Zoe,ZnF]; omega⟩
  rw [Zoe,ZnF,← ZqC,Zop (by omega)]
 ·cases h
theorem Evw {lw hw:Option Operand} (i:Nat) (c:Cx B N σ Γ Φ a w) (hr:cut? l lo n = some r) (h:∀ a' c' fr,VW (Rep.sz α) b cp lo a' c' → Cx B N ((d,.slice a' r.length c') :: σ) Γ Φ fr w → wpFrom P ops Q (k + 1) fr w) (hi:Γ[i]? = some (SL E (.slice b n0 cp) l):=by rfl)
  (ho:ops[k]? = some ⟨some d,.slice t x lw hw none,ty,pos,af,none⟩:=by rfl) (hd:Nat.blt d N = true:=by rfl) (he:Ty P E α:=by constructor <;> kernel_rfl) (ht:P.underlying t = some (.slice E):=by kernel_rfl) (hx:opd σ x = some (.slice b n0 cp):=by kernel_rfl)
  (hlo:(match lw with | none=>some 0 | some y=>numOf (opd σ y)) = some lo:=by kernel_rfl) (hhi:(match hw with | none=>some (len l) | some y=>numOf (opd σ y)) = some n:=by kernel_rfl):wpFrom P ops Q k a w:=by
 obtain ⟨hF,S,F,hM,hs,hf⟩:=c
 obtain ⟨A,hA,_⟩:=hs.get i hi
 refine Zlc he ht ho hd hF hx (SL.rv hA) (m:=lo) (n:=n) ?_ ?_ hr fun a' c' fr hv _ hF'=>h a' c' fr hv ⟨hF',S,F,hM,hs,hf⟩
 ·cases lw with
  | none=>exact (Option.some.inj hlo).symm
  | some y=>exact ZL hlo
 ·cases hw with
  | none=>exact (Option.some.inj hhi).symm
  | some y=>exact ZL hhi
theorem Ava.vw (i:Nat) (hv:VW (Rep.sz α) b cp lo a' c') (hr:cut? l lo n = some r) (hi:Γ[i]? = some (SL E (.slice b n0 cp) l):=by rfl):Ava Γ Φ w (RO (.slice a' r.length c') r):=fun S F hs hf=>by
 obtain ⟨A,h1,h2⟩:=hs.get i hi
 obtain ⟨e1,e2⟩:=ZgT hr
 have:=Zik (RV.sub (SL.rv h1) fun k _ hk=>(.inr (h2 k hk):F k ∨ S k)) hv e2
 rw [← e1] at this
 exact this
theorem Ecpv (i:Nat) (c:Cx B N σ Γ Φ a w) (hv:VW (Rep.sz α) b cp lo a' c') (hr:cut? l lo n = some r) (hu:Ava Γ Φ w (RO u m)) (h:∀ q fr w',Cx B N ((d,q) :: σ) (Γ.set i (SL E (.slice b n0 cp) (vcopy l lo r.length m))) Φ fr w' → wpFrom P ops Q (k + 1) fr w') (hi:Γ[i]? = some (SL E (.slice b n0 cp) l):=by rfl)
  (ho:ops[k]? = some ⟨some d,.call ⟨.builtin .copy,#[x,y],#[t,t']⟩,ty,pos,af,none⟩:=by rfl) (hd:Nat.blt d N = true:=by rfl) (he:Ty P E α:=by constructor <;> kernel_rfl) (ht:P.underlying t = some (.slice E):=by kernel_rfl) (hx:opd σ x = some (.slice a' r.length c'):=by kernel_rfl) (hy:opd σ y = some u:=by kernel_rfl):wpFrom P ops Q k a w:=by
 obtain ⟨F',hu⟩:=c.use hu
 obtain ⟨hF,S,F,hM,hs,hf⟩:=c
 exact ZlI i hs hM hi ht he ho hd hF hx hy hu hv (ZgT hr).2 fun w' S' fr q hs' hp hF'=>h q fr w' ⟨hF',S',F,hM.stp hp,hs',hf.chg hp.chg fun k hk hS=>hM.dj k hS hk⟩
end
section
variable {E:TypeId} {w:World} {A:Nat → Prop} {b a':Option Addr} {n c c' k:Nat} {l r:List Int} {m hi:Int}
theorem ZhX {v:Value} (h:(TL E v l).ok w A):∃ a c,v = .slice a l.length c:=by
 rcases h with ⟨g,c,lo,a',c',base,h1,h2,h3,h4,rfl⟩ | ⟨rfl,a,rfl⟩
 ·exact ⟨_,_,rfl⟩
 ·exact ⟨_,_,rfl⟩
theorem Zlb (h:(TL E (.slice b n c) l).ok w A) (hk:k ≤ l.length):(TL E (.slice b k c) (l.take k)).ok w A:=by
 rcases h with ⟨g,c0,lo,a0,c1,base,h1,h2,h3,h4,h5⟩ | ⟨rfl,a,h5⟩
 ·simp only [Value.slice.injEq] at h5
  obtain ⟨rfl,rfl,rfl⟩:=h5
  have hb:lo.toNat + k ≤ base.length:=by omega
  have e:(base.take (lo.toNat + k)).length = lo.toNat + k:=by rw [ZnF]; omega
  have e2:(l.take k).length = k:=by rw [ZnF]; omega
  refine .inl ⟨g,c0,lo,b,c,base.take (lo.toNat + k),by rw [e]; exact h1.front hb,h2,by rw [e,e2],?_,by rw [e2]⟩
  rw [h4,ZqC]
  congr 1; omega
 ·simp only [Value.slice.injEq] at h5
  obtain ⟨rfl,rfl,rfl⟩:=h5
  obtain rfl:k = 0:=by simpa using hk
  exact .inr ⟨rfl,b,rfl⟩
theorem Zme (h:(TL E (.slice b n c) l).ok w A) (hv:VW 1 b c m a' c') (hr:cut? l m hi = some r):(TL E (.slice a' r.length c') r).ok w A:=by
 unfold cut? at hr
 split at hr
 ·rename_i hb
  obtain rfl:=Option.some.inj hr
  have h1:=Zlb (k:=hi.toNat) h (by omega)
  exact ZmF h1 hv (by rw [Zoe,ZnF]; omega) rfl
 ·cases hr
end
abbrev ownL (E:TypeId):Hd → List Int → HP:=fun h xs=>TL E h.v xs
theorem Zh2 (E:TypeId):Owns (ownL E):=⟨rfl,rfl,fun w A r x h=>RV.one rfl (Zfm h)⟩
theorem ZeX (E:TypeId) (w:World):(ownL E ⟨none,0,0⟩ []).ok w Non:=.inr ⟨rfl,none,rfl⟩
section
variable {P:Program} {B:Bs} {N:Nat} {σ:List (Nat × Value)} {Γ:List HP} {Φ:List RF} {a:Act} {w:World} {Q:Exit → Act → World → Prop}
  {ops:Array Oper} {k d d2:Nat} {t t' ty ty':TypeId} {pos pos':String} {af af':Array Edge} {x y:Operand} {E E':TypeId} {l r m:List Int} {v u:Value} {rs:List Hd} {xs:List (List Int)}
theorem Cx.toT (i:Nat) (c:Cx B N σ Γ Φ a w) (hi:Γ[i]? = some (SL E v l):=by rfl):Cx B N σ (Γ.set i (TL E v l)) Φ a w:=c.swap i (fun _ h=>ZiE h) hi
theorem Ava.gt (i:Nat) (hi:Γ[i]? = some (TL E v l):=by rfl):Ava Γ Φ w (RO v l):=fun S F hs hf=>by
 obtain ⟨A,h1,h2⟩:=hs.get i hi
 exact RV.sub (Zfm h1) fun k _ hk=>.inr (h2 k hk)
theorem Cx.relent {b:Option Addr} {n cp:Nat} (i:Nat) (c:Cx B N σ Γ Φ a w) (hi:Γ[i]? = some (TL E (.slice b n cp) l):=by rfl):n = l.length ∧ Cx B N σ (Γ.set i (TL E (.slice b l.length cp) l)) Φ a w:=by
 obtain ⟨_,S,F,_,hs,_⟩:=id c
 obtain ⟨A,h1,_⟩:=hs.get i hi
 obtain ⟨a',c',he⟩:=ZhX h1
 have he:n = l.length:=by simpa using (Value.slice.inj he).2.1
 subst he
 exact ⟨rfl,c.swap i (fun _ h=>h) hi⟩
theorem Eapt (i:Nat) (c:Cx B N σ Γ Φ a w) (hu:Ava Γ Φ w (RO u m)) (hr:app? l m = some r) (h:∀ a' c' fr w',Cx B N ((d,.slice a' (List.length r) c') :: σ) (Γ.set i (TL E (.slice a' (List.length r) c') r)) Φ fr w' → wpFrom P ops Q (k + 1) fr w') (hi:Γ[i]? = some (TL E v l):=by rfl)
  (ho:ops[k]? = some ⟨some d,.call ⟨.builtin .append,#[x,y],#[t,t']⟩,ty,pos,af,none⟩:=by rfl) (htt:t' = t:=by rfl) (hd:Nat.blt d N = true:=by rfl) (he:ElT P E Int:=by refine elT ?_; kernel_rfl) (ht:P.underlying t = some (.slice E):=by kernel_rfl)
  (hx:opd σ x = some v:=by kernel_rfl) (hy:opd σ y = some u:=by kernel_rfl):wpFrom P ops Q k a w:=by
 obtain ⟨F',hu⟩:=c.use hu
 obtain ⟨hF,S,F,hM,hs,hf⟩:=c
 exact Zjr i hs hM hi ht he ho htt hd hF hx hy hu hr fun a' c' w' S' fr hs' hp hF'=>h a' c' fr w' ⟨hF',S',F,hM.stp hp,hs',hf.chg hp.chg fun k hk hS=>hM.dj k hS hk⟩
theorem Ecutt {lw hw:Option Operand} {b:Option Addr} {n0 cp:Nat} {lo n:Int} (i:Nat) (c:Cx B N σ Γ Φ a w) (hr:cut? l lo n = some r) (h:∀ a' c' fr,Cx B N ((d,.slice a' r.length c') :: σ) (Γ.set i (TL E (.slice a' r.length c') r)) Φ fr w → wpFrom P ops Q (k + 1) fr w) (hi:Γ[i]? = some (TL E (.slice b n0 cp) l):=by rfl)
  (ho:ops[k]? = some ⟨some d,.slice t x lw hw none,ty,pos,af,none⟩:=by rfl) (hd:Nat.blt d N = true:=by rfl) (he:Ty P E Int:=by constructor <;> kernel_rfl) (ht:P.underlying t = some (.slice E):=by kernel_rfl) (hx:opd σ x = some (.slice b n0 cp):=by kernel_rfl)
  (hlo:(match lw with | none=>some 0 | some y=>numOf (opd σ y)) = some lo:=by kernel_rfl) (hhi:(match hw with | none=>some (len l) | some y=>numOf (opd σ y)) = some n:=by kernel_rfl):wpFrom P ops Q k a w:=by
 obtain ⟨hF,S,F,hM,hs,hf⟩:=c
 obtain ⟨A,hA,_⟩:=hs.get i hi
 refine Zlc he ht ho hd hF hx (Zfm hA) (m:=lo) (n:=n) ?_ ?_ hr fun a' c' fr hv _ hF'=>h a' c' fr ⟨hF',S,F,hM,hs.swapT i hi fun A hA=>Zme hA hv hr,hf⟩
 ·cases lw with
  | none=>exact (Option.some.inj hlo).symm
  | some y=>exact ZL hlo
 ·cases hw with
  | none=>exact (Option.some.inj hhi).symm
  | some y=>exact ZL hhi
theorem Eall {q:List Int} {n:Int} (i j:Nat) (c:Cx B N σ Γ Φ a w) (hz:get? xs n = some q) (h:∀ p a' c' fr,rs[n.toNat]? = some ⟨a',q.length,c'⟩ → Cx B N ((d2,.slice a' q.length c') :: (d,p) :: σ) Γ Φ fr w → wpFrom P ops Q (k + 2) fr w) (hi:Γ[i]? = some (SL E v rs):=by rfl) (hj:Γ[j]? = some (HP.all (ownL E') rs xs):=by rfl)
  (ho:ops[k]? = some ⟨some d,.indexAddr t x y,ty,pos,af,none⟩:=by rfl) (ho':ops[k + 1]? = some ⟨some d2,.load t' (.tmp d),ty',pos',af',none⟩:=by rfl) (hd:Nat.blt d N = true:=by rfl) (hd':Nat.blt d2 N = true:=by rfl)
  (he:Ty P t' Hd:=by constructor <;> kernel_rfl) (ht:P.underlying t = some (.slice t'):=by kernel_rfl) (hx:opd σ x = some v:=by kernel_rfl) (hy:numOf (opd σ y) = some n:=by kernel_rfl):wpFrom P ops Q k a w:=by
 obtain ⟨_,S,F,_,hs,_⟩:=id c
 obtain ⟨A,hA,_⟩:=hs.get j hj
 have hl:=Za1 hA
 have hn:=get?_nn hz
 have hq:=get?_at hz
 have hlt:=(Zn9.1 hq).1
 have hr:rs[n.toNat]? = some rs[n.toNat]:=Zn5 (by omega)
 obtain ⟨a',c',e⟩:=ZhX (E:=E') (v:=(rs[n.toNat]).v) (l:=q) (Za2 hA hr hq:(ownL E' rs[n.toNat] q).ok w A)
 have e':rs[n.toNat] = ⟨a',q.length,c'⟩:=by
  generalize rs[n.toNat] = z at e
  cases z; simp only [Hd.v,Value.slice.injEq] at e; obtain ⟨rfl,rfl,rfl⟩:=e; rfl
 have hg:get? rs n = some ⟨a',q.length,c'⟩:=by
  unfold get?; rw [ZnC hn,hr,e']
 exact Eel (α:=Hd) c (.g i hi) hg (fun p fr c=>h p a' c' fr (by rw [hr,e']) c) ho ho' hd hd' he ht hx hy
theorem Ava.ae {a':Option Addr} {c':Nat} {q:List Int} {n:Int} (j:Nat) (hr:rs[n.toNat]? = some ⟨a',q.length,c'⟩) (hz:get? xs n = some q) (hj:Γ[j]? = some (HP.all (ownL E) rs xs):=by rfl):Ava Γ Φ w (RO (.slice a' q.length c') q):=fun S F hs hf=>by
 obtain ⟨A,h1,h2⟩:=hs.get j hj
 exact RV.sub (Zfm (E:=E) ((Za2 h1 hr (get?_at hz):(ownL E ⟨a',q.length,c'⟩ q).ok w A):(TL E (.slice a' q.length c') q).ok w A)) fun k _ hk=>.inr (h2 k hk)
theorem Cx.tka {a':Option Addr} {c':Nat} {q:List Int} {n:Int} (j:Nat) (c:Cx B N σ Γ Φ a w) (hr:rs[n.toNat]? = some ⟨a',q.length,c'⟩) (hz:get? xs n = some q) (hj:Γ[j]? = some (HP.all (ownL E) rs xs):=by rfl):Cx B N σ (rest [j] Γ ++ [TL E (.slice a' q.length c') q]) Φ a w:=
 c.pack [HP.all (ownL E) rs xs] [j] (fun A h=>(Za2 (Sep.sole h) hr (get?_at hz):(ownL E ⟨a',q.length,c'⟩ q).ok w A)) (by simp [hj]) (by simp)
theorem Cx.fza {a':Option Addr} {c':Nat} {q:List Int} {n:Int} (i j:Nat) (c:Cx B N σ Γ Φ a w) (hr:rs[n.toNat]? = some ⟨a',q.length,c'⟩) (hz:get? xs n = some q) (hi:Γ[i]? = some (SL E' v rs):=by rfl) (hj:Γ[j]? = some (HP.all (ownL E) rs xs):=by rfl) (hne:[i,j].Nodup:=by decide):Cx B N σ (rest [i,j] Γ) (Φ ++ [RO v xs,RO (.slice a' q.length c') q]) a w:=by
 obtain ⟨h,S,F,h1,h2,h3⟩:=c
 have hp:=h2.part [i,j] (Γ1:=[SL E' v rs,HP.all (ownL E) rs xs]) (by simp [hi,hj]) hne
 obtain ⟨S',F',hM,hs,hb,hfz⟩:=Sep.freeze hp.join2 h1
 refine ⟨h,S',F',hM,hs,(h3.sub fun k _ hk=>hfz k hk).join (AllF.of [RO v xs,RO (.slice a' q.length c') q] ⟨Zf9 (Zh2 E) hb,Zfm (E:=E) ((Za2 (Zaz hb) hr (get?_at hz):(ownL E ⟨a',q.length,c'⟩ q).ok w F'):(TL E (.slice a' q.length c') q).ok w F'),trivial⟩)⟩
theorem Cx.tk2 {a' a2:Option Addr} {c' c2:Nat} {q q2:List Int} {n n2:Int} (j:Nat) (c:Cx B N σ Γ Φ a w) (hr:rs[n.toNat]? = some ⟨a',q.length,c'⟩) (hz:get? xs n = some q) (hr2:rs[n2.toNat]? = some ⟨a2,q2.length,c2⟩) (hz2:get? xs n2 = some q2) (hne:n2.toNat < n.toNat:=by decide) (hj:Γ[j]? = some (HP.all (ownL E) rs xs):=by rfl) :
  Cx B N σ (rest [j] Γ ++ [TL E (.slice a' q.length c') q]) (Φ ++ [RO (.slice a2 q2.length c2) q2]) a w:=by
 obtain ⟨h,S,F,h1,h2,h3⟩:=c
 have hp:=h2.part [j] (Γ1:=[HP.all (ownL E) rs xs]) (by simp [hj]) (by simp)
 have h4:Sep (HP.two (ownL E ⟨a',q.length,c'⟩ q) (.but (ownL E) n.toNat rs xs) :: rest [j] Γ) w S:=Sep.imp hp fun A hA=>Zcb hA hr (get?_at hz)
 have h5:=h4.two
 obtain ⟨A1,B1,o1,b1,d1,f1,g1⟩:=h5.cons_ok
 have h6:Sep (HP.but (ownL E) n.toNat rs xs :: (rest [j] Γ ++ [TL E (.slice a' q.length c') q])) w S:=by
  have:=ZE (Γ2:=[ownL E ⟨a',q.length,c'⟩ q]) h5
  exact this
 obtain ⟨S',F',hM,hs,hb,hfz⟩:=Sep.freeze h6 h1
 refine ⟨h,S',F',hM,hs,(h3.sub fun k _ hk=>hfz k hk).add ?_⟩
 have hb1:(HP.all (ownL E) (rs.take n.toNat) (xs.take n.toNat)).ok w F':=ZaP hb
 have hb2:(ownL E ⟨a2,q2.length,c2⟩ q2).ok w F':=Za2 hb1 (i:=n2.toNat) (by rw [Zok,ZnC hne]; exact hr2) (by rw [Zok,ZnC hne]; exact get?_at hz2)
 exact Zfm (E:=E) (hb2:(TL E (.slice a2 q2.length c2) q2).ok w F')
end
section
variable {P:Program} {B:Bs} {N:Nat} {σ:List (Nat × Value)} {Γ:List HP} {Φ Φ1:List RF} {a:Act} {w:World} {Q:Exit → Act → World → Prop}
  {draw:Bool} {ms:List Nat} {ops:Array Oper} {pds:List Pd} {j:Nat} {dst:Option Tmp} {g:Option (Nat × Bool)} {ty:TypeId} {x:Operand} {pos:String} {af:Array Edge}
theorem NclV {args:List Value} {f:FuncId} {xs:Array Operand} {ts:Array TypeId} {vs:List Value} {u:Value} (c:Cx B N σ Γ Φ a w) (hcon:gc ops pds ops.size j → Con P f args [] Φ1 fun (_:Unit)=>(vs,[],[])) (ro:AvaL Γ Φ w Φ1)
  (hf:∀ (args:Array Value) (w:World),(callFunc f args).run P w = .ok (.enter f args) w) (hv:Go.GL.tup vs = u:=by rfl) (ho:ops[j]? = some ⟨dst,.call ⟨.value x,xs,ts⟩,ty,pos,af,g⟩:=by rfl) (hx:envP ops σ pds j x = some (.func (.func f) #[] #[]):=by kernel_rfl)
  (hargs:xs.toList.map (envP ops σ pds j) = args.map some:=by kernel_rfl) (hG:Good ops pds []) (hpd:pds.getD j .any = .eq u):NPB P draw ms ops pds a w Q j:=
 Zkd args [] hG c.fr hf ho hx hargs fun w' hC hg=>by
  rw [Zoz]
  obtain ⟨_,S,F,hM,hs,hF⟩:=c.ext hC
  have hro:AllF Φ1 w (fun k=>k < w.heap.size):=by
   obtain ⟨_,S0,F0,hM0,hs0,hF0⟩:=c
   exact (AvaL.all ro hs0 hF0).sub fun k hk _=>hk
  refine (hcon hg w' Non (fun k=>k < w.heap.size) (Sep.nil _ _) (hro.chg hC fun _ _ h=>h.elim) (fun _ h=>h.elim) (fun k hk=>ZnQ hk hC.size) (fun _ h=>h.elim)).mono ?_
  rintro e w'' ⟨i,S',F',rfl,hM',_,_⟩
  exact ⟨_,rfl,hM'.chg.mono fun k hk=>hk,by rw [hpd]; exact hv⟩
end
open Go.RowKit Go.Maps
theorem Zh7 {H:Type} {P:Program} {k:TypeId} {R:Value → Option (DataW H × List MemPlace)} {w w':World} {S:Nat → Prop} {b r n cnt:Nat} {D:DataW H} {left:Lit → Bool}
  (h:w.ranges P k R b r n D left cnt) (hc:Chg S w w') (hb:¬ S b) (hr:¬ S r):w'.ranges P k R b r n D left cnt:=by
 have h1:=h.owns.lt
 have h2:=h.lt
 obtain ⟨es,clock,since,seen,c0,hb',F,hs,hD,hr',rest⟩:=h
 exact ⟨es,clock,since,seen,c0,(hc.block b h1 hb).trans hb',F,hs,hD,(hc.block r h2 hr).trans hr',rest⟩
theorem Chg.of_grownN {w w':World} (h:w.grownBy w' none):Chg Non w w':=⟨h.os,h.tape,h.output,h.size,fun k hk _=>h.block k hk (by simp)⟩
section
variable {P:Program} {K V:TypeId} {κ β:Type} [Flat κ] [Flat β] [DecidableEq κ]
def RG (T:MapT P K V κ β) (b r:Nat) (m:List (κ × β)) (left:Lit → Bool) (cnt:Nat):HP where
 ok w A:=(∃ n,w.ranges P K T.R b r n (T.D m) left cnt) ∧ (∀ p ∈ m,T.fit p.1 = true) ∧ A b ∧ A r
 mono:=fun ⟨⟨n,h⟩,hf,hb,hr⟩ hA=>⟨⟨n,h⟩,hf,hA _ h.owns.lt hb,hA _ h.lt hr⟩
 keep:=fun ⟨⟨n,h⟩,hf,hb,hr⟩ hc hT=>⟨⟨n,Zh7 h hc (hT _ hb) (hT _ hr)⟩,hf,hb,hr⟩
omit [DecidableEq κ] in
theorem MapT.none_ (T:MapT P K V κ β) {kl:Lit} (z:DataW Value):∀ m:List (κ × β),(∀ p ∈ m,T.lit p.1 ≠ kl) → (T.D m).atKey kl z = z
 | [],_=>rfl
 | (u,y) :: m,h=>by
  rw [MapT.D,atKey_put_other (fun e=>h (u,y) ZnR e.symm)]
  exact MapT.none_ T z m fun p hp=>h p (ZnZ _ hp)
omit [Flat κ] [Flat β] in
theorem ZdA {x:κ}:∀ {m:List (κ × β)},(∃ p ∈ m,p.1 = x) → ∃ y,m.lookup x = some y
 | [],⟨p,hp,_⟩=>by cases hp
 | (u,y) :: m,h=>by
  by_cases e:x = u
  ·subst e; exact ⟨y,by simp [List.lookup]⟩
  ·have e' : (x == u) = false := by simpa using e
   obtain ⟨p,hp,rfl⟩:=h
   rcases Zof.1 hp with rfl | hp
   ·exact absurd rfl e
   ·obtain ⟨z, hz⟩ := ZdA (x := p.1) ⟨p, hp, rfl⟩
    exact ⟨z,by rw [Zoi,e']; exact hz⟩
theorem MapT.came (T:MapT P K V κ β) {m:List (κ × β)} (hf:∀ p ∈ m,T.fit p.1 = true) {kl:Lit} {v:Value} {y:DataW Value × List MemPlace} (hv:T.R v = some y) (hat:∀ zd,(T.D m).atKey kl zd = y.1) :
  ∃ x z,T.fit x = true ∧ T.lit x = kl ∧ m.lookup x = some z ∧ v = Rep.val β (Flat.enc z):=by
 by_cases hk:∃ p ∈ m,T.lit p.1 = kl
 ·obtain ⟨p, hp, rfl⟩ := hk
  have hfit:=hf p hp
  obtain ⟨z,hz⟩:=ZdA (x:=p.1) ⟨p,hp,rfl⟩
  refine ⟨p.1,z,hfit,rfl,hz,?_⟩
  have h1:=hat (.map [])
  rw [T.at_ hfit _ m hf,hz] at h1
  simp only at h1
  obtain ⟨y1,ps⟩:=y
  simp only at h1; subst h1
  exact T.back v z ps hv
 ·exfalso
  have hn:∀ p ∈ m,T.lit p.1 ≠ kl:=fun p hp e=>hk ⟨p,hp,e⟩
  have h1:=hat (.lit (.bool true))
  have h2:=hat (.lit (.bool false))
  rw [T.none_ _ m hn] at h1 h2
  rw [← h2] at h1
  cases h1
end
section
variable {P:Program} {B:Bs} {N:Nat} {σ:List (Nat × Value)} {Γ:List HP} {Φ:List RF} {a:Act} {w:World} {Q:Exit → Act → World → Prop} {K':Act → World → Prop}
  {ops:Array Oper} {k d:Nat} {t t' ty yt:TypeId} {pos:String} {af:Array Edge} {x y:Operand}
  {K V:TypeId} {κ β:Type} [Flat κ] [Flat β] [DecidableEq κ] {T:MapT P K V κ β} {b r:Nat} {m:List (κ × β)} {left:Lit → Bool} {cnt:Nat}
theorem Ern (i:Nat) (c:Cx B N σ Γ Φ a w)
  (h:∀ r fr w',Cx B N ((d,.pointer (some ⟨r,0,none⟩)) :: σ) (Γ.set i (RG T b r m (Maps.has (T.D m)) (Maps.size (T.D m)))) Φ fr w' → wpFrom P ops Q (k + 1) fr w') (hi:Γ[i]? = some (MP T b m):=by rfl)
  (ho:ops[k]? = some ⟨some d,.range t x,ty,pos,af,none⟩:=by rfl) (hd:Nat.blt d N = true:=by rfl) (ht:P.underlying t = some (.map K V):=by kernel_rfl) (hx:opd σ x = some (.map (some b)):=by kernel_rfl):wpFrom P ops Q k a w:=by
 obtain ⟨hF,S,F,hM,hs,hf⟩:=c
 obtain ⟨A,⟨hown,hA⟩,hup⟩:=hs.upd i hi hM
 obtain ⟨w',hrun,hrg,hg,hsz⟩:=hown.1.range T.keyed ht
 refine Zz hF ho rfl rfl (Zon.mp hd) (R:=fun z w1=>z = .pointer (some ⟨w.heap.size,0,none⟩) ∧ w1 = w') (Zh ?_ ⟨rfl,rfl⟩) fun z w1 fr hz hF'=>?_
 ·simp [execOp,Zd hF hx,hrun]
 ·obtain ⟨rfl, rfl⟩ := hz
  obtain ⟨S',hp,hs'⟩:=hup (P':=RG T b w.heap.size m (Maps.has (T.D m)) (Maps.size (T.D m))) (Chg.of (Chg.of_grownN hg)) ⟨⟨_,hrg⟩,hown.2,.inl hA,.inr (ZnK _)⟩
  exact h _ fr w1 ⟨hF',S',F,hM.stp hp,hs',hf.chg hp.chg fun k hk hS=>hM.dj k hS hk⟩
theorem Enx (i:Nat) (hback:∀ key x,keyOf P K key = some (T.lit x) → key = Rep.val κ (Flat.enc x)) (c:Cx B N σ Γ Φ a w)
  (h0:(∀ kl,left kl = false) → ∀ fr,Cx B N ((d,.tuple #[.bool false]) :: σ) Γ Φ fr w → wpFrom P ops Q (k + 1) fr w)
  (h1 : ∀ (u : κ) (z : β) cnt' fr w', T.fit u = true → m.lookup u = some z → left (T.lit u) = true → cnt' < cnt → (Instr.entry (.pointer (some ⟨r, 0, none⟩))).run P w' = .ok (.tuple #[Rep.val κ (Flat.enc u), Rep.val β (Flat.enc z)]) w' →
   Cx B N ((d,.tuple #[.bool true,Rep.val κ (Flat.enc u),Rep.val β (Flat.enc z)]) :: σ) (Γ.set i (RG T b r m (fun q=>left q && !q.sameKey (T.lit u)) cnt')) Φ fr w' → wpFrom P ops Q (k + 1) fr w')
  (hi:Γ[i]? = some (RG T b r m left cnt):=by rfl) (ho:ops[k]? = some ⟨some d,.next x false,ty,pos,af,none⟩:=by rfl) (hd:Nat.blt d N = true:=by rfl) (hx:opd σ x = some (.pointer (some ⟨r,0,none⟩)):=by kernel_rfl):wpFrom P ops Q k a w:=by
 obtain ⟨hF,S,F,hM,hs,hf⟩:=c
 obtain ⟨A,⟨⟨n,hrg⟩,hfit,hAb,hAr⟩,hup⟩:=hs.upd i hi hM
 rcases hrg.next T.keyed ty with ⟨_,hl,hrun⟩ | ⟨key,v,kl,y,w',cnt',hkey,hlk,hv,hat,hrun,hrg',hlt,hgr,hsz,hen⟩
 ·refine Zz hF ho rfl rfl (Zon.mp hd) (R := fun z w1 => z = .tuple #[.bool false] ∧ w = w1) (Zh ?_ ⟨rfl, rfl⟩) fun z w1 fr hz hF' => ?_
  ·simp [execOp,Zd hF hx,hrun]
  ·obtain ⟨rfl, rfl⟩ := hz
   exact h0 hl fr ⟨hF',S,F,hM,hs,hf⟩
 ·obtain ⟨u, z, hu, rfl, hz, rfl⟩ := T.came hfit hv hat
  obtain rfl:=hback key u hkey
  refine Zz hF ho rfl rfl (Zon.mp hd) (R:=fun q w1=>q = .tuple #[.bool true,Rep.val κ (Flat.enc u),Rep.val β (Flat.enc z)] ∧ w1 = w') (Zh ?_ ⟨rfl,rfl⟩) fun q w1 fr hq hF'=>?_
  ·simp [execOp,Zd hF hx,hrun]
  ·obtain ⟨rfl, rfl⟩ := hq
   have hc:Chg A w w1:=(Chg.of_grown hgr).mono fun k hk=>by subst hk; exact hAr
   obtain ⟨S',hp,hs'⟩:=hup (P':=RG T b r m (fun q=>left q && !q.sameKey (T.lit u)) cnt') hc ⟨⟨n,hrg'⟩,hfit,.inl hAb,.inl hAr⟩
   exact h1 u z cnt' fr w1 hu hz hlk hlt hen ⟨hF',S',F,hM.stp hp,hs',hf.chg hp.chg fun k hk hS=>hM.dj k hS hk⟩
theorem Een {v:Value} (c:Cx B N σ Γ Φ a w) (hen:(Instr.entry (.pointer (some ⟨r,0,none⟩))).run P w = .ok v w) (h:∀ fr,Cx B N ((d,v) :: σ) Γ Φ fr w → wpFrom P ops Q (k + 1) fr w)
  (ho:ops[k]? = some ⟨some d,.entry x,ty,pos,af,none⟩:=by rfl) (hd:Nat.blt d N = true:=by rfl) (hx:opd σ x = some (.pointer (some ⟨r,0,none⟩)):=by kernel_rfl):wpFrom P ops Q k a w:=
 Zz c.fr ho rfl rfl (Zon.mp hd) (R:=fun q w1=>q = v ∧ w = w1) (Zh (by simp [execOp,Zd c.fr hx,hen]) ⟨rfl,rfl⟩) fun q w1 fr hq hF'=>by
  obtain ⟨rfl,rfl⟩:=hq
  exact h fr (c.to hF')
theorem Zmo {c:Code} (I:Nat → Act → World → Prop) {n:Nat} (h0:I n a w) (round:∀ n a w,I n a w → c.wp P (Exit.then (fun a' w'=>∃ n',n' < n ∧ I n' a' w') Q) a w):(Code.loop c).wp P Q a w:=by
 have key:∀ n a w,I n a w → ∀ (b:Frame) (K:List Item) (cs:List Frame),
   ∃ e a' w',Q e a' w' ∧ Arrives P (lone (b.at a (.code c :: .inLoop c :: K)) cs w) b K cs e a' w':=by
  intro n
  induction n using Nat.strongRecOn with
  | ind n ih=>
   intro a w hI b K cs
   obtain ⟨e,a₁,w₁,hq,harr⟩:=round n a w hI b (.inLoop c :: K) cs
   cases e with
   | normal=>
    obtain ⟨n',hn,hI'⟩:=hq
    obtain ⟨e₂,a₂,w₂,hq₂,harr₂⟩:=ih n' hn a₁ w₁ hI' b K cs
    exact ⟨e₂,a₂,w₂,hq₂,.of_steps (Steps.trans harr (.one step_inLoop)) harr₂⟩
   | exit id=>exact ⟨_,a₁,w₁,hq,.pass (x:=.inLoop c) rfl (fun _ _=>.inl (by simp)) harr⟩
   | goto l=>exact ⟨_,a₁,w₁,hq,.pass (x:=.inLoop c) rfl (fun _ _=>.inl (by simp)) harr⟩
   | ret=>exact ⟨_,a₁,w₁,hq,.pass (x:=.inLoop c) rfl (fun _ _=>.inl (by simp)) harr⟩
   | panic ch=>exact ⟨_,a₁,w₁,hq,.pass (x:=.inLoop c) rfl (fun _ _=>.inl (by simp)) harr⟩
   | outgrown=>exact ⟨_,a₁,w₁,hq,.pass (x:=.inLoop c) rfl (fun _ _=>.inl (by simp)) harr⟩
 intro b K cs
 obtain ⟨e,a',w',hq,harr⟩:=key n a w h0 b K cs
 exact ⟨e,a',w',hq,.of_steps (.one step_loop) harr⟩
theorem LpW {id:Nat} {bd:Code} (I:Nat → Act → World → Prop) (M:Act → World → Prop) {n:Nat} (h0:I n a w)
  (round:∀ n a w,I n a w → bd.wp P (Exit.then (fun a' w'=>∃ n',n' < n ∧ I n' a' w') (Exit.inBlock id (Exit.then M Q))) a w) (cont:∀ a w,M a w → K' a w):(Code.block id (.loop bd)).wp P (Exit.then K' Q) a w:=
 wp_cut (wp_block (Zmo I h0 round)) cont
end
open Go.RowKit Go.Shelf Go.Sort Go.Proofs Go.Lib
theorem ZfD {w:World} {g:Nat} {cur:Array Value} {e:TypeId} {F:Array Value} (hb:w.heap[g]? = some (.cells cur e (0,0))) (ht:cur.toList.take F.size = F.toList):Holds id w g 0 F:=by
 intro j hj
 refine ⟨?_,by simp [World.frozen?,hb]⟩
 have h1:(cur.toList.take F.size)[j]? = F.toList[j]?:=by rw [ht]
 rw [ZpX hj] at h1
 simp only [World.cell?,hb,Zpc,Zqf,Zn6,ZnI]
 rw [← Zpk,h1]
 simp [hj]
theorem ZfO {w:World} {g n:Nat} {os:Array Obj} {cur:Array Value} {e:TypeId} {fr:Nat × Nat} (F:Array Value) (hb:w.heap[g]? = some (.cells cur e fr)) :
  (grow (putRow id (Sort.ahead w n) g 0 F) os).heap[g]? = some (.cells (putCells id 0 F cur) e fr):=by
 have hg:g < w.heap.size:=(ZnU.1 hb).1
 rw [heap_grow_old _ _ (by simpa using hg)]
 simp [putRow,mapBlock,Sort.ahead,Array.getElem?_modify,hb,onCells]
theorem ZdB {w:World} {g n:Nat} {os:Array Obj} (F:Array Value):w.grownBy (grow (putRow id (Sort.ahead w n) g 0 F) os) (some g):=by
 refine ⟨rfl,rfl,rfl,by simp,fun k hk hne=>?_⟩
 rw [heap_grow_old _ _ (by simpa using hk)]
 have:g ≠ k:=fun e=>hne (by rw [e])
 simp [putRow,mapBlock,Sort.ahead,Array.getElem?_modify,this]
theorem Ze3 (cur F:Array Value) (h:F.size ≤ cur.size):(putCells id 0 F cur).toList.take F.size = F.toList:=by
 apply Zo8
 intro j
 by_cases hj:j < F.size
 ·rw [ZpX hj, Zpk]
  simp [putCells,hj,show j < cur.size by omega]
 ·rw [List.getElem?_take_eq_none (by omega),ZnT (by simpa using hj)]
section
variable {α:Type} [Flat α] [Inhabited α]
omit [Inhabited α] in
theorem Ziz (x:α):(Flat.enc x).length = Rep.sz α:=Rep.len (w:=default) (F:=Non) (Flat.iff.2 rfl:Rep.ok default Non (Flat.enc x) x)
omit [Inhabited α] in
theorem ZgD {w:World} {F:Nat → Prop} {css:List (List Value)} {l:List α} (h1:Css w F css l):css = l.map Flat.enc:=by
 apply Zo8
 intro i
 rw [ZnW]
 by_cases hi:i < l.length
 ·have hc : i < css.length := by rw [h1.1]; exact hi
  have:=h1.2 i css[i] l[i] (Zn5 hc) (Zn5 hi)
  rw [Zn5 hc,Zn5 hi,Flat.iff.1 this]; rfl
 ·rw [ZnT (by rw [h1.1]; omega),ZnT (by omega)]; rfl
omit [Flat α] [Inhabited α] in
theorem Zip {k:Nat} (enc:α → List Value) (hk:∀ x,(enc x).length = k) (h0:0 < k):∀ (l:List α) (t:Nat),(l.map enc).flatten[t]? = (l[t / k]?).bind fun x=>(enc x)[t % k]?
 | [],t=>by simp
 | x :: l,t=>by
  rw [ZnE,ZoP]
  by_cases h:t < k
  ·rw [ZnJ (by rw [hk]; exact h),ZoX h,Zps h]; rfl
  ·rw [ZnH (by rw [hk]; omega), hk, Zip enc hk h0 l]
   obtain ⟨u,rfl⟩ : ∃ u,t = u + k:=⟨t - k,by omega⟩
   rw [Zq8,Nat.add_div_right _ h0,Nat.add_mod_right]; rfl
omit [Flat α] in
theorem ZhF {k:Nat} (enc:α → List Value) (hk:∀ x,(enc x).length = k) (h0:0 < k) (l:List α):(flatK enc k l.toArray).toList = (l.map enc).flatten:=by
 have hlen:(l.map enc).flatten.length = l.length * k:=by
  clear h0
  induction l with
  | nil=>simp
  | cons x l ih=>rw [ZnE,ZoP,ZnD,hk,ih,ZnL,Zpn,ZpG,Nat.add_comm]
 apply Zo8
 intro t
 by_cases ht:t < l.length * k
 ·rw [Zip enc hk h0]
  have hq:t / k < l.length:=Nat.div_lt_of_lt_mul (by rw [Zo1]; exact ht)
  have hm:t % k < k:=Nat.mod_lt _ h0
  have h1:=get_flatK enc k l.toArray t (by simpa using ht)
  have h2:t < (flatK enc k l.toArray).size:=by simpa using ht
  rw [Zpk,ZoA h2]
  rw [getElem!_pos _ t h2] at h1
  rw [h1]
  have h3:l.toArray[t / k]! = l[t / k]:=by simp [hq]
  rw [h3,Zn5 hq]
  simp only [Zn4]
  rw [Zn5 (by rw [hk]; exact hm),getElem!_pos _ _ (by rw [hk]; exact hm)]
 ·rw [ZnT (by simpa using ht),ZnT (by rw [hlen]; omega)]
theorem OwnS.sortedF {w:World} {E:TypeId} {go:Option Nat} {G:Nat → Prop} {a:Option Addr} {n c:Nat} {l:List α} (h:OwnS w E go G Non (.slice a n c) l) (hl:n ≠ 0) (h0:0 < Rep.sz α) :
  n = l.length ∧ ∃ g,a = some ⟨g,0,none⟩ ∧ g < w.heap.size ∧ HoldsK Flat.enc (Rep.sz α) w g 0 l.toArray ∧
   ∀ k os (l':List α),l'.length = l.length → OwnS (grow (putRowK Flat.enc (Rep.sz α) (Sort.ahead w k) g 0 l'.toArray) os) E go G Non (.slice a n c) l' ∧ Chg (fun k=>go = some k) w (grow (putRowK Flat.enc (Rep.sz α) (Sort.ahead w k) g 0 l'.toArray) os):=by
 obtain ⟨F,css,h1,h2,h3,h4,h5⟩:=h
 rcases h2.2 with ⟨hn,hz⟩ | ⟨g,cap,cur,hv,hb,hg,hnc,hcm,hcs,htake⟩
 ·simp only [Value.slice.injEq] at hn
  exact absurd hn.2.1 hl
 simp only [Value.slice.injEq] at hv
 obtain ⟨rfl,rfl,rfl⟩:=hv
 obtain rfl:=ZgD h1
 have hgo:go = some g:=by rw [← h3]; rfl
 have hgs:g < w.heap.size:=(ZnU.1 hg).1
 have hfl:∀ l':List α,(flatK Flat.enc (Rep.sz α) l'.toArray).toList = (l'.map Flat.enc).flatten:=fun l'=>ZhF _ Ziz h0 l'
 have hsz:∀ l':List α,(flatK Flat.enc (Rep.sz α) l'.toArray).size = l'.length * Rep.sz α:=fun l'=>by simp
 refine ⟨rfl,g,rfl,hgs,ZfD hg (by rw [hsz,hfl]; exact htake),fun k os l' hlen=>?_⟩
 have hgr:=ZdB (w:=w) (g:=g) (n:=k) (os:=os) (flatK Flat.enc (Rep.sz α) l'.toArray)
 have hchg:Chg (fun k=>go = some k) w (grow (putRowK Flat.enc (Rep.sz α) (Sort.ahead w k) g 0 l'.toArray) os):=
  ⟨hgr.os,hgr.tape,hgr.output,hgr.size,fun k hk hn=>hgr.block k hk fun e=>hn (by rw [hgo]; exact e.symm)⟩
 have htk:=Ze3 cur (flatK Flat.enc (Rep.sz α) l'.toArray) (by rw [hsz,hlen,hcs]; exact Zpa _ hnc)
 rw [hsz,hfl] at htk
 refine ⟨⟨Non,l'.map Flat.enc,Zbn _,⟨?_,.inr ⟨g,c,_,by rw [hlen],hb,ZfO _ hg,by rw [hlen]; exact hnc,hcm,by simpa [putCells] using hcs,htk⟩⟩,h3,fun g' hg'=>⟨(h4 g' hg').1,id⟩,fun _ h=>h.elim⟩,hchg⟩
 rw [← hfl,ZoE,hsz]
def SrtP (cf:α → α → Int) (l l':List α):Prop:=l'.Perm l ∧ l'.Pairwise fun x y=>ltOf cf y x = false
omit [Flat α] in
theorem ZmL {cf:α → α → Int} {l:List α} {d':Array α} (hp:PermIn 0 l.toArray.size l.toArray d') (hs:SortedIn (ltOf cf) 0 l.toArray.size d'):SrtP cf l d'.toList:=by
 obtain ⟨h1,_,h3⟩:=hp
 have e:d'.extract 0 l.toArray.size = d':=by rw [← h1]; simp
 rw [e] at h3
 refine ⟨by simpa using h3,Zpf.2 fun i j hi hj hij=>?_⟩
 have h:=hs i j (ZoW _) hij (by rw [← h1]; simpa using hj)
 rw [getElem!_pos d' i (by simpa using hi),getElem!_pos d' j (by simpa using hj)] at h
 simpa using h
theorem Zjq {P:Program} {ρ:Ren} (Ly:SlLaysF0.n6 P ρ) {f g:Nat} (hf:ρ.f 6 = f) (aE:∀ w,(isAgg (ρ.t 24)).run P w = .ok true w) (zE:∀ w,(Go.sizeOf (ρ.t 24)).run P w = .ok (Rep.sz α) w) (h0:0 < Rep.sz α) (h1:∀ x:α,∀ v ∈ Flat.enc x,v.oneCell' = true)
  (cf:α → α → Int) (hO:SWO (ltOf cf)) (eg:∀ args w,(callFunc g args).run P w = .ok (.enter g args) w)
  (hcmp:∀ (x y:α) W,Calls P g #[.agg (Flat.enc x).toArray,.agg (Flat.enc y).toArray] W fun e w'=>e = .returned (.int .i64 (cf x y)) ∧ ∃ q os',w' = grow (W.drewN q) os')
  {E:TypeId} {l:List α} (hl:l.length < 4611686018427387904) {a:Option Addr} {n c:Nat} :
  Con P f [.slice a n c,.func (.func g) #[] #[]] [SL E (.slice a n c) l] [] fun (i:{l':List α // SrtP cf l l'})=>([],[SL E (.slice a n c) i.1],[]):=by
 subst hf
 intro w S F hs hfx hS hF hd
 have hM:Mem w S F w S F:=Mem.start hS hF hd
 obtain ⟨hn,_⟩:=hs.relen 0 rfl
 obtain ⟨A,hok,hup⟩:=hs.upd 0 rfl hM
 by_cases hz:n = 0
 ·have hnil : l = [] := ZoJ (by omega)
  subst hz hnil
  refine (AnyF.slices_SortFunc_none Ly a c (.func (.func g) #[] #[]) w).mono ?_
  rintro e w' ⟨rfl,rfl⟩
  exact ⟨⟨[],List.Perm.nil,List.Pairwise.nil⟩,S,F,rfl,hM,hs,fun R hR=>by cases hR⟩
 ·rcases hok with ⟨go, ho⟩ | ⟨rfl, q, hq⟩
  ·obtain ⟨rfl, b, rfl, hb, hH, hnext⟩ := ho.sortedF hz h0
   have hc:CmpLays P g #[] Flat.enc (Rep.sz α) cf b 0 l.toArray.size w:=fun m os dk _ x y=>hcmp x y _
   refine (AnyQ.slices_SortFunc Ly (Rep.sz α) aE zE Flat.enc Ziz h1 cf hO g #[] b 0 c l.toArray w eg hc hH hb (by simpa using hl)).mono ?_
   rintro e w' ⟨rfl,d',m,os,hp,hsd,rfl⟩
   have hsr:=ZmL hp hsd
   obtain ⟨g1,g2⟩:=hnext m os d'.toList (by simpa using hp.1)
   obtain ⟨S',hp',hs'⟩:=hup (P':=SL E (.slice (some ⟨b,0,none⟩) l.length c) d'.toList) (g2.mono fun k hk=>ho.inG hk) (.inl ⟨go,g1.regard fun k _ hk=>.inl hk⟩)
   refine ⟨⟨d'.toList,hsr⟩,S',F,rfl,?_,?_,fun R hR=>by cases hR⟩
   ·simpa [sortWorldK] using hM.stp hp'
   ·simpa [sortWorldK] using hs'
  ·simp only [Value.slice.injEq] at hq
   exact absurd hq.2.1 hz
end
theorem Zfq:∀ x:List UInt8,Op.bytesLess x x = false
 | []=>rfl
 | a :: x=>by simp [Op.bytesLess,Zfq x]
theorem Zd5:∀ x y z:List UInt8,Op.bytesLess x y = true → Op.bytesLess y z = true → Op.bytesLess x z = true
 | _,_,[]=>by intro _ h; cases ‹List UInt8› <;> simp [Op.bytesLess] at h
 | _,[],_ :: _=>by intro h _; cases ‹List UInt8› <;> simp [Op.bytesLess] at h
 | [],_ :: _,_ :: _=>by intro _ _; rfl
 | a :: x,b :: y,c :: z=>by
  intro h1 h2
  simp only [Op.bytesLess,Zo6,ZnO,ZnB,ZoN] at h1 h2 ⊢
  rcases h1 with h1 | ⟨rfl,h1⟩
  ·rcases h2 with h2 | ⟨rfl, h2⟩
   ·exact .inl (UInt8.lt_trans h1 h2)
   ·exact .inl h1
  ·rcases h2 with h2 | ⟨rfl, h2⟩
   ·exact .inl h2
   ·exact .inr ⟨rfl,Zd5 x y z h1 h2⟩
theorem ZeR:∀ x y:List UInt8,Op.bytesLess x y = false → x ≠ y → Op.bytesLess y x = true
 | [],[]=>fun _ h=>absurd rfl h
 | _ :: _,[]=>fun _ _=>rfl
 | [],_ :: _=>fun h _=>by simp [Op.bytesLess] at h
 | a :: x,b :: y=>by
  intro h1 h2
  simp only [Op.bytesLess,ZpN,decide_eq_false_iff_not,Zo6,ZnO,ZnB,ZoN] at h1 ⊢
  by_cases e:a = b
  ·subst e
   have:Op.bytesLess x y = false:=by simpa using h1.2
   exact .inr ⟨rfl,ZeR x y this (fun h=>h2 (by rw [h]))⟩
  ·rcases UInt8.lt_or_lt_of_ne e with h | h
   ·exact absurd h h1.1
   ·exact .inl h
theorem ZhU (a b:Str):Str.ltb a b = Op.bytesLess a.bytes b.bytes:=by unfold Str.ltb; rw [show ∀ l:List UInt8,(ByteArray.mk l.toArray).toList = l from fun l=>Go.Lib.toList_data _,show ∀ l:List UInt8,(ByteArray.mk l.toArray).toList = l from fun l=>Go.Lib.toList_data _]
theorem Zbx (a:Str):Str.ltb a a = false:=by rw [ZhU]; exact Zfq _
theorem Zbp {a b c:Str} (h1:Str.ltb a b = true) (h2:Str.ltb b c = true):Str.ltb a c = true:=by rw [ZhU] at *; exact Zd5 _ _ _ h1 h2
theorem ZfC {a b:Str} (h1:Str.ltb a b = false) (h2:a ≠ b):Str.ltb b a = true:=by
 rw [ZhU] at *
 exact ZeR _ _ h1 fun e=>h2 (by cases a; cases b; simpa using e)
abbrev ltV (a b:D.Value):Prop:=Str.ltb a.Name b.Name = true
theorem ZbB:∀ m:List (Str × Int),(vtab m).Pairwise ltV
 | []=>List.Pairwise.nil
 | (s,w) :: m=>by
  have ih:=ZbB m
  unfold vtab
  rw [Zoh,ZpA]
  refine ⟨ih.filter _,?_,fun a ha b hb=>?_⟩
  ·rw [Zox, Zpq]
   exact ⟨fun b hb=>(Zoc.1 hb).2,ih.filter _⟩
  ·rw [Zox] at hb
   have h1:=(Zoc.1 ha).2
   rcases Zof.1 hb with rfl | hb
   ·exact h1
   ·exact Zbp h1 (Zoc.1 hb).2
theorem ZbE (v:D.Value):∀ m:List (Str × Int),v ∈ vtab m ↔ m.lookup v.Name = some v.W ∧ v.N = 0
 | []=>by simp [vtab]
 | (s,w) :: m=>by
  have ih:=ZbE v m
  unfold vtab
  simp only [ZnS,Zoc,ZnX,ih,Zoi]
  by_cases e:v.Name = s
  ·subst e
   simp only [Zbx,Zn6,and_false,false_or,or_false,Zph,Option.some.injEq]
   constructor
   ·intro h; rw [h]; exact ⟨rfl,rfl⟩
   ·rintro ⟨h1,h2⟩; cases v; simp_all
  ·have e' : (v.Name == s) = false := by simpa using e
   rw [e']
   have hne:v ≠ ⟨s,w,0⟩:=fun h=>e (by rw [h])
   by_cases h:Str.ltb v.Name s = true
   ·simp only [h, hne, ZrF, or_false]
    exact ⟨fun h=>h.elim id fun h=>h.1,.inl⟩
   ·have h' := ZfC (by simpa using h) e
    simp [h,h',hne]
theorem ZkB:∀ {l l':List D.Value},l.Pairwise ltV → l'.Pairwise ltV → (∀ v,v ∈ l ↔ v ∈ l') → l = l'
 | [],[],_,_,_=>rfl
 | [],y :: l',_,_,h=>by have:=(h y).2 ZnR; cases this
 | x :: l,[],_,_,h=>by have:=(h x).1 ZnR; cases this
 | x :: l,y :: l',h1,h2,h=>by
  rw [Zpq] at h1 h2
  have hxy:x = y:=by
   rcases Zof.1 ((h x).1 ZnR) with e | hx
   ·exact e
   ·rcases Zof.1 ((h y).2 ZnR) with e | hy
    ·exact e.symm
    ·have h3 := Zbp (h1.1 y hy) (h2.1 x hx)
     rw [Zbx] at h3; cases h3
  subst hxy
  congr 1
  refine ZkB h1.2 h2.2 fun v=>?_
  have:=h v
  simp only [Zof] at this
  constructor
  ·intro hv
   rcases this.1 (.inr hv) with e | hv'
   ·subst e
    have h3:=h1.1 v hv
    unfold ltV at h3; rw [Zbx] at h3; cases h3
   ·exact hv'
  ·intro hv
   rcases this.2 (.inr hv) with e | hv'
   ·subst e
    have h3:=h2.1 v hv
    unfold ltV at h3; rw [Zbx] at h3; cases h3
   ·exact hv'
def cmpS (a b:Str):Int:=if Str.ltb a b then -1 else if Str.gtb a b then 1 else 0
def cmpV (x y:D.Value):Int:=cmpS x.Name y.Name
theorem ZmA (a b:Str):Str.gtb a b = Str.ltb b a:=by
 have h:Str.gtb a b = !(Str.ltb a b || Str.eqb a b):=rfl
 rw [h]
 by_cases e:a = b
 ·subst e
  rw [Zbx]
  have:Str.eqb a a = true:=by unfold Str.eqb; simp
  rw [this]; rfl
 ·have he:Str.eqb a b = false:=by
   unfold Str.eqb
   rw [show ∀ l:List UInt8,(ByteArray.mk l.toArray).toList = l from fun l=>Go.Lib.toList_data _,show ∀ l:List UInt8,(ByteArray.mk l.toArray).toList = l from fun l=>Go.Lib.toList_data _]
   have:a.bytes ≠ b.bytes:=fun h=>e (by cases a; cases b; simpa using h)
   simpa using this
  rw [he,Bool.or_false]
  cases h1:Str.ltb a b with
  | true=>
   cases h2:Str.ltb b a with
   | true=>have:=Zbp h1 h2; rw [Zbx] at this; cases this
   | false=>rfl
  | false=>rw [ZfC h1 e]; rfl
theorem Zeb (x y:D.Value):Go.Proofs.ltOf cmpV x y = Str.ltb x.Name y.Name:=by
 unfold Go.Proofs.ltOf cmpV cmpS
 rw [ZmA]
 cases h1:Str.ltb x.Name y.Name with
 | true=>simp
 | false=>cases h2:Str.ltb y.Name x.Name <;> simp
theorem swoV:Go.Sort.SWO (Go.Proofs.ltOf cmpV) where
 irrefl x:=by rw [Zeb]; exact Zbx _
 trans x y z h1 h2:=by rw [Zeb] at *; exact Zbp h1 h2
 ntrans x y z h1 h2:=by
  rw [Zeb] at *
  cases h:Str.ltb x.Name z.Name with
  | false=>rfl
  | true=>
   by_cases e:x.Name = y.Name
   ·rw [e,h2] at h; cases h
   ·have h3 := ZfC h1 e
    have:=Zbp h3 h
    rw [h2] at this; cases this
theorem Zhy:∀ {l l':List D.Value},(l.Pairwise fun a b=>a.Name ≠ b.Name) → (∀ v ∈ l,v ∈ l') → l.length ≤ l'.length
 | [],_,_,_=>ZoW _
 | x :: l,l',hn,h=>by
  rw [Zpq] at hn
  obtain ⟨s,t,rfl⟩:=List.append_of_mem (h x ZnR)
  have:=Zhy (l:=l) (l':=s ++ t) hn.2 fun v hv=>by
   have h1:=h v (ZnZ _ hv)
   rcases ZnS.1 h1 with h2 | h2
   ·exact ZnS.2 (.inl h2)
   ·rcases Zof.1 h2 with e | h2
    ·exact absurd (by rw [e]) (hn.1 v hv)
    ·exact ZnS.2 (.inr h2)
  simp at this ⊢; omega
theorem ZcO:∀ m:List (Str × Int),(vtab m).length ≤ m.length
 | []=>ZnK _
 | (s,w) :: m=>by
  have ih:=ZcO m
  have key:∀ l:List D.Value,(l.filter fun v=>Str.ltb v.Name s).length + (l.filter fun v=>Str.ltb s v.Name).length ≤ l.length:=by
   intro l
   induction l with
   | nil=>simp
   | cons v l ihl=>
    by_cases h1:Str.ltb v.Name s = true
    ·have h2:Str.ltb s v.Name = false:=by
      cases h:Str.ltb s v.Name with
      | false=>rfl
      | true=>have:=Zbp h1 h; rw [Zbx] at this; cases this
     simp [h1,h2]; omega
    ·by_cases h2 : Str.ltb s v.Name = true
     ·simp [h1,h2]; omega
     ·simp [h1,h2]; omega
  unfold vtab
  have:=key (vtab m)
  simp; omega
def oP (b:Bool) (k:Nat):Value:=cond b (B k 0) (.pointer none)
def HP.on (b:Bool) (l:List HP):HP:=cond b (HP.sep l) (HP.pure True)
section
variable {P:Program} {B:Bs} {N:Nat} {σ:List (Nat × Value)} {Γ:List HP} {Φ:List RF} {a:Act} {w:World} {K:Act → World → Prop} {Q:Exit → Act → World → Prop} {ops:Array Oper} {k d:Nat} {ty t:TypeId} {pos:String} {af:Array Edge}
theorem Cx.opn {b:Bool} {l:List HP} (i:Nat) (hb:b = true) (c:Cx B N σ Γ Φ a w) (hi:Γ[i]? = some (HP.on b l):=by rfl):Cx B N σ (rest [i] Γ ++ l) Φ a w:=by
 subst hb
 exact c.flat i hi
theorem Cx.onf (c:Cx B N σ Γ Φ a w):Cx B N σ (Γ ++ [HP.pure True]) Φ a w:=c.gam fun S h=>ZE (Γ2:=[HP.pure True]) (Γ:=Γ) (by
 exact Sep.mk_cons (P:=HP.pure True) (A:=Non) (B:=S) True.intro h (fun _ h _=>h.elim) (fun _ h=>h.elim) fun _ h=>h)
theorem Cx.onp (l:List HP) (gs:List Nat) (c:Cx B N σ Γ Φ a w) (hL:gs.map (fun i=>Γ[i]?) = l.map some:=by rfl) (hn:gs.Nodup:=by decide):Cx B N σ (rest gs Γ ++ [HP.on true l]) Φ a w:=c.pack (H:=HP.sep l) l gs (fun _ h=>h) hL hn
theorem Cx.eli {v:Value} {l:List Int} {n x:Int} (c:Cx B N σ Γ Φ a w) (hl:Ava [] Φ w (RO v l)) (hx:get? l n = some x):∃ p,Cx B N σ Γ (Φ ++ [EA Int v n p (.int .i64 x)]) a w:=by
 obtain ⟨p,u,hF,S,F,h1,h2,h3⟩:=c.elp hl hx
 have hr:RV w F u x:=h3 (RO u x) (by simp)
 have e:u = .int .i64 x:=hr.flat
 subst e
 refine ⟨p,hF,S,F,h1,h2,fun R hR=>h3 R ?_⟩
 rw [ZnS] at hR ⊢
 exact hR.imp id fun h=>by rw [ZnX] at h; rw [h]; exact ZnR
theorem Ih {x y:Code} {o:Operand} {β:Type} {X Y:Option β} {r:Option β} {b:Bool} (c:Cx B N σ Γ Φ a w) (h:(if b = true then X else Y) = r) (ht:b = true → X = r → x.wp P Q a w) (hf:b = false → Y = r → y.wp P Q a w) (hb:opd σ o = some (.bool b):=by kernel_rfl) :
  (Code.cond o x y).wp P Q a w:=Zid c.fr hb (fun hb=>ht hb (iteT hb h)) fun hb=>hf hb (iteF hb h)
theorem bT {b:Bool} (h:(!b) = false):b = true:=by simpa using h
theorem Ebu {v:Value} {parts:Array (Nat × Operand)} (vs:Array (Nat × Value)) (c:Cx B N σ Γ Φ a w) (h:∀ fr,Cx B N ((d,v) :: σ) Γ Φ fr w → wpFrom P ops Q (k + 1) fr w) (ho:ops[k]? = some ⟨some d,.build t parts,ty,pos,af,none⟩:=by rfl) (hd:Nat.blt d N = true:=by rfl)
  (hp:parts.toList.map (fun p=>(p.1,opd σ p.2)) = vs.toList.map (fun p=>(p.1,some p.2)):=by kernel_rfl) (hr:∀ w,(Instr.build t vs).run P w = .ok v w:=by intro _; kernel_rfl):wpFrom P ops Q k a w:=by
 have hpv:parts.map (fun p=>(p.1,a.eval p.2)) = vs:=by
  apply Array.ext'
  rw [Array.toList_map]
  have:∀ (l:List (Nat × Operand)) (m:List (Nat × Value)),l.map (fun p=>(p.1,opd σ p.2)) = m.map (fun p=>(p.1,some p.2)) → l.map (fun p=>(p.1,a.eval p.2)) = m:=by
   intro l
   induction l with
   | nil=>intro m hm; cases m with | nil=>rfl | cons _ _=>cases hm
   | cons p l ih=>
    intro m hm
    cases m with
    | nil=>cases hm
    | cons q m=>
     simp only [ZnE,List.cons.injEq,Prod.mk.injEq] at hm
     obtain ⟨⟨h1,h2⟩,h3⟩:=hm
     rw [ZnE,ih m h3,Zd c.fr h2,h1]
  exact this _ _ hp
 exact Zz c.fr ho rfl rfl (Zon.mp hd) (R:=fun q w1=>q = v ∧ w = w1) (Zh (by simp only [execOp]; rw [hpv]; simp [hr w]) ⟨rfl,rfl⟩) fun q w1 fr hq hF'=>by
  obtain ⟨rfl,rfl⟩:=hq
  exact h fr (c.to hF')
theorem Eai {x y:Operand} {u v r n:Int} (c:Cx B N σ Γ Φ a w) (hz:get? [u,v] n = some r) (h:∀ fr,Cx B N ((d,.int .i64 r) :: σ) Γ Φ fr w → wpFrom P ops Q (k + 1) fr w) (ho:ops[k]? = some ⟨some d,.index t x y,ty,pos,af,none⟩:=by rfl) (hd:Nat.blt d N = true:=by rfl)
  (hx:opd σ x = some (.agg #[.int .i64 u,.int .i64 v]):=by kernel_rfl) (hy:opd σ y = some (.int .i64 n):=by kernel_rfl) (h0:∀ w,(Instr.index t (.agg #[.int .i64 u,.int .i64 v]) (.int .i64 0)).run P w = .ok (.int .i64 u) w:=by intro _; kernel_rfl)
  (h1:∀ w,(Instr.index t (.agg #[.int .i64 u,.int .i64 v]) (.int .i64 1)).run P w = .ok (.int .i64 v) w:=by intro _; kernel_rfl):wpFrom P ops Q k a w:=by
 have hn:=get?_nn hz
 have hat:=get?_at hz
 have hlt:n.toNat < [u,v].length:=(Zn9.1 hat).1
 simp only [ZnL,Zom] at hlt
 have hr:(Instr.index t (.agg #[.int .i64 u,.int .i64 v]) (.int .i64 n)).run P w = .ok (.int .i64 r) w:=by
  have:n = 0 ∨ n = 1:=by omega
  rcases this with rfl | rfl
  ·have : u = r := by simpa using hat
   rw [← this]; exact h0 w
  ·have : v = r := by simpa using hat
   rw [← this]; exact h1 w
 exact Zz c.fr ho rfl rfl (Zon.mp hd) (R:=fun q w1=>q = .int .i64 r ∧ w = w1) (Zh (by simp only [execOp]; rw [Zd c.fr hx,Zd c.fr hy]; simp [hr]) ⟨rfl,rfl⟩) fun q w1 fr hq hF'=>by
  obtain ⟨rfl,rfl⟩:=hq
  exact h fr (c.to hF')
end
structure JP where
 z:Int
 h:Hd
instance:Rep JP where
 sz:=2
 agg:=true
 ok:=fun w F cs x=>cs = [.int .i64 x.z,x.h.v]
 len:=by rintro w F cs x rfl; rfl
 one:=by rintro w F cs x rfl u hu; simp at hu; rcases hu with rfl | rfl <;> rfl
 pos:=by decide
 sgl:=fun h=>by cases h
 keep:=fun h _=>h
instance:Flat JP where
 enc:=fun x=>[.int .i64 x.z,x.h.v]
 iff:=Iff.rfl
def PK (E:TypeId) (v:Value) {β:Type} (xs:List β):HP:=.ex fun raws:List JP=>.two (.pure (raws.length = xs.length)) (SL E v raws)
theorem PK.intro {E:TypeId} {v:Value} {β:Type} {xs:List β} {raws:List JP} {L:List HP} {w:World} {S:Nat → Prop} (hl:raws.length = xs.length) (h:Sep (SL E v raws :: L) w S):Sep (PK E v xs :: L) w S:=
 h.imp fun A hA=>⟨raws,Non,A,hl,hA,fun _ h _=>h.elim,fun _ h=>h.elim (fun h=>h.elim) id⟩
theorem PK.elim {E:TypeId} {v:Value} {β:Type} {xs:List β} {L:List HP} {w:World} {S:Nat → Prop} (h:Sep (PK E v xs :: L) w S):∃ raws:List JP,raws.length = xs.length ∧ Sep (SL E v raws :: L) w S:=by
 obtain ⟨A,R,⟨raws,B,C,h1,h2,h3,h4⟩,k2,k3,k4,k5⟩:=h.cons_ok
 exact ⟨raws,h1,Sep.mk_cons h2 k2 (fun k hc hr=>k3 k (h4 k (.inr hc)) hr) (fun k hc=>k4 k (h4 k (.inr hc))) k5⟩
section
variable {P:Program} {B:Bs} {N:Nat} {σ:List (Nat × Value)} {Γ:List HP} {Φ:List RF} {a:Act} {w:World} {Q:Exit → Act → World → Prop} {ops:Array Oper} {k d i:Nat} {ty t t' E E':TypeId} {pos:String} {af:Array Edge} {x y z:Operand} {v:Value} {n:Int} {p:Addr} {rs:List Hd} {xs ys:List (List Int)}
theorem Cx.fc0 {q:List Int} (i j:Nat) (c:Cx B N σ Γ Φ a w) (hz:get? xs n = some q) (hi:Γ[i]? = some (SL E v rs):=by rfl) (hj:Γ[j]? = some (HP.all (ownL E') rs xs):=by rfl):∃ a' c' p,rs[n.toNat]? = some ⟨a',q.length,c'⟩ ∧ rs.length = xs.length ∧ EP Hd v n p:=by
 obtain ⟨_,S,F,_,hs,_⟩:=id c
 obtain ⟨A,hA,_⟩:=hs.get j hj
 have hl:=Za1 hA
 have hn:=get?_nn hz
 have hq:=get?_at hz
 have hlt:=(Zn9.1 hq).1
 have hr:rs[n.toNat]? = some rs[n.toNat]:=Zn5 (by omega)
 obtain ⟨a',c',e⟩:=ZhX (E:=E') (v:=(rs[n.toNat]).v) (l:=q) (Za2 hA hr hq:(ownL E' rs[n.toNat] q).ok w A)
 have e':rs[n.toNat] = ⟨a',q.length,c'⟩:=by
  generalize rs[n.toNat] = z at e
  cases z; simp only [Hd.v,Value.slice.injEq] at e; obtain ⟨rfl,rfl,rfl⟩:=e; rfl
 obtain ⟨b,cap,rfl,e1,e2,e3⟩:=RV.slice (hs.rv i hi)
 obtain ⟨ad,rfl,hFb,hel⟩:=e3 (by rintro rfl; simp at hl; omega)
 exact ⟨a',c',_,by rw [hr,e'],hl,ad,rs.length,cap,rfl,rfl,hn,by omega⟩
theorem qLh {S:List (Nat × Value)} {h:Hd} (j:Nat) (he:EP Hd v n p) (hr:rs[n.toNat]? = some h) (hj:Γ[j]? = some (SL E v rs):=by rfl) (ho:ops[i]? = some ⟨some d,.load t x,ty,pos,af,none⟩:=by rfl) (hdN:Nat.blt d N = true:=by rfl) (ht:Ty P t Hd:=by constructor <;> kernel_rfl) (hx:opd S x = some (.pointer (some p)):=by kernel_rfl)
  (a:Act) (w:World) (c:Cx B N S Γ Φ a w):wpOp P ops Q i (fun a' w'=>Cx B N ((d,h.v) :: S) Γ Φ a' w') a w:=by
 obtain ⟨_,S',F,_,hs,_⟩:=id c
 obtain ⟨b,cap,rfl,e1,e2,e3⟩:=RV.slice (hs.rv j hj)
 have hlt:n.toNat < rs.length:=(Zn9.1 hr).1
 obtain ⟨ad,rfl,hFb,hel⟩:=e3 (by rintro rfl; simp at hlt)
 obtain ⟨ad',len,cap',e4,rfl,_⟩:=he
 obtain ⟨e5,_,_⟩:=Value.slice.inj e4
 cases e5
 obtain ⟨cs,hok,hcl⟩:=Zah hel hr
 have hcl:Cells w (ad.add (n.toNat * Rep.sz Hd)) cs:=by simpa using hcl
 have ecs:cs = Flat.enc h:=Flat.iff.1 hok
 subst ecs
 have h1:=Zd c.fr hx
 refine qV ho rfl rfl hdN c (Zh (v:=Rep.val Hd (Flat.enc h)) (w':=w) ?_ ⟨rfl,rfl⟩)
 simp [execOp,Instr.loadAt,h1,Instr.sureAddr,Yz ht (Rep.len hok) hcl]
theorem Efap {q m r:List Int} {u:Value} {a':Option Addr} {c':Nat} (j l:Nat) (c:Cx B N σ Γ Φ a w) (hz:get? xs n = some q) (hr:rs[n.toNat]? = some ⟨a',q.length,c'⟩) (hap:app? q m = some r)
  (h:∀ a2 c2 fr w',Cx B N ((d,.slice a2 (List.length r) c2) :: σ) (rest [j] Γ ++ [HP.but (ownL E') n.toNat rs xs,TL E' (.slice a2 (List.length r) c2) r]) Φ fr w' → wpFrom P ops Q (k + 1) fr w') (hj:Γ[j]? = some (HP.all (ownL E') rs xs):=by rfl) (hl:(rest [j] Γ)[l]? = some (SL E' u m):=by rfl)
  (ho:ops[k]? = some ⟨some d,.call ⟨.builtin .append,#[x,y],#[t,t']⟩,ty,pos,af,none⟩:=by rfl) (htt:t' = t:=by rfl) (hd:Nat.blt d N = true:=by rfl) (he:ElT P E' Int:=by refine elT ?_; kernel_rfl) (ht:P.underlying t = some (.slice E'):=by kernel_rfl)
  (hx:opd σ x = some (.slice a' q.length c'):=by kernel_rfl) (hy:opd σ y = some u:=by kernel_rfl):wpFrom P ops Q k a w:=by
 have c2:Cx B N σ (rest [j] Γ ++ [HP.but (ownL E') n.toNat rs xs,TL E' (.slice a' q.length c') q]) Φ a w:=c.gam fun S hs=>by
  have hp:=hs.part [j] (Γ1:=[HP.all (ownL E') rs xs]) (by simp [hj]) (by simp)
  have h4:Sep (HP.two (ownL E' ⟨a',q.length,c'⟩ q) (.but (ownL E') n.toNat rs xs) :: rest [j] Γ) w S:=Sep.imp hp fun A hA=>Zcb hA hr (get?_at hz)
  have h5:=h4.two
  exact ZE (Γ2:=[_,_]) h5.swap
 refine Eapt ((rest [j] Γ).length + 1) c2 (Ava.g (E:=E') l ?_) hap (fun a2 c2 fr w' c=>h a2 c2 fr w' ?_) (by simp) ho htt hd he ht hx hy
 ·rw [ZnJ (Zn9.1 hl).1]; exact hl
 ·have e:(rest [j] Γ ++ [HP.but (ownL E') n.toNat rs xs,TL E' (.slice a' q.length c') q]).set ((rest [j] Γ).length + 1) (TL E' (.slice a2 (List.length r) c2) r) = rest [j] Γ ++ [HP.but (ownL E') n.toNat rs xs,TL E' (.slice a2 (List.length r) c2) r]:=by
   rw [ZoL _ _ (by omega)]; simp
  rw [e] at c
  exact c
theorem Zjy {α:Type} {l r:List α} {n:Int} {q:α} (h:set? l n q = some r):n.toNat < l.length ∧ r = l.set n.toNat q:=by
 unfold set? at h
 split at h
 ·rename_i hn; exact ⟨hn.2,(Option.some.inj h).symm⟩
 ·cases h
theorem Efst {r:List Int} {a2:Option Addr} {c2:Nat} (i j l:Nat) (c:Cx B N σ Γ Φ a w) (hep:EP Hd v n p) (hl0:rs.length = xs.length) (hz:set? xs n r = some ys)
  (h:∀ fr w',Cx B N σ (rest [i,j,l] Γ ++ [SL E v (rs.set n.toNat ⟨a2,List.length r,c2⟩),HP.all (ownL E') (rs.set n.toNat ⟨a2,List.length r,c2⟩) ys]) Φ fr w' → wpFrom P ops Q (k + 1) fr w') (hi:Γ[i]? = some (SL E v rs):=by rfl) (hj:Γ[j]? = some (HP.but (ownL E') n.toNat rs xs):=by rfl) (hl:Γ[l]? = some (TL E' (.slice a2 (List.length r) c2) r):=by rfl)
  (hne:[i,j,l].Nodup:=by decide) (ho:ops[k]? = some ⟨none,.store E x z,ty,pos,af,none⟩:=by rfl) (he:Ty P E Hd:=by constructor <;> kernel_rfl) (hp:opd σ x = some (.pointer (some p)):=by kernel_rfl) (hq:opd σ z = some (.slice a2 (List.length r) c2):=by kernel_rfl):wpFrom P ops Q k a w:=by
 obtain ⟨hlt,rfl⟩:=Zjy hz
 obtain ⟨hF,S,F,hM,hs,hf⟩:=c
 have hs:=hs.part [i,j,l] (Γ1:=[SL E v rs,HP.but (ownL E') n.toNat rs xs,TL E' (.slice a2 (List.length r) c2) r]) (by simp [hi,hj,hl]) hne
 obtain ⟨A,hok,hup⟩:=Sep.upd 0 hs rfl hM
 rcases hok with ⟨go,hown⟩ | ⟨rfl,_,_⟩
 ·obtain ⟨g, w', hgo, ⟨cc, hv⟩, hrun, g1, g2⟩ := hown.set_run (P := P) he (Fr := Non) (u := Rep.val Hd (Flat.enc (⟨a2, List.length r, c2⟩ : Hd))) (x := (⟨a2, List.length r, c2⟩ : Hd)) ⟨_, Flat.iff.2 rfl, rfl⟩ (Fu := Non) Zb9 (fun _ _ h => h.elim) (n := n.toNat) (by omega)
  obtain ⟨ad,len,cap,e1,rfl,_⟩:=hep
  rw [hv] at e1
  obtain ⟨e2,_,_⟩:=Value.slice.inj e1
  cases e2
  obtain ⟨S',hpp,hs'⟩:=hup (P':=SL E v (rs.set n.toNat ⟨a2,List.length r,c2⟩)) (g2.mono fun k hk=>hown.inG hk) (.inl ⟨go,g1.regard fun k _ hk=>.inl hk⟩)
  refine ZaY hF ho rfl rfl (R:=fun _ w2=>w2 = w') (Za5 ?_ rfl) fun w2 hw2 hF2=>?_
  ·have hq' : opd σ z = some (Rep.val Hd (Flat.enc (⟨a2, List.length r, c2⟩ : Hd))) := hq
   simp [execOp,Instr.storeAt,Zd hF hp,Zd hF hq',Instr.sureAddr,hrun]
  ·obtain ⟨_, rfl⟩ := hw2
   refine h _ _ ⟨hF2,S',F,hM.stp hpp,ZE (Γ2:=[_,_]) ?_,hf.chg hpp.chg fun k hk hS=>hM.dj k hS hk⟩
   have hs':Sep (SL E v (rs.set n.toNat ⟨a2,List.length r,c2⟩) :: HP.but (ownL E') n.toNat rs xs :: TL E' (.slice a2 (List.length r) c2) r :: rest [i,j,l] Γ) w2 S':=hs'
   have eb:HP.but (ownL E') n.toNat rs xs = HP.but (ownL E') n.toNat (rs.set n.toNat ⟨a2,List.length r,c2⟩) xs:=by
    unfold HP.but
    rw [List.take_set_of_le (ZnK _),List.drop_set_of_lt (by omega)]
   rw [eb] at hs'
   exact hs'.under fun _ h=>h.swap.fill (by rw [Zqc]; exact hl0) (by rw [List.getElem?_set_self (by omega)]) (by unfold set?; rw [ZnC (by have:=hz; unfold set? at this; split at this <;> simp_all)])
 ·simp at hl0; omega
end
section
variable {α:Type} [Rep α] {w:World} {F:Nat → Prop} {b:Option Addr} {n0 c:Nat} {l r:List α} {n:Int}
theorem Zky (h:RV w F (.slice b n0 c) l) (hr:cut? l 0 n = some r):RV w F (.slice b (List.length r) c) r ∧ 0 ≤ n ∧ n ≤ (c:Int) ∧ r.length = n.toNat:=by
 unfold cut? at hr
 split at hr
 ·rename_i hn
  simp only [Zre,Zpu,Option.some.injEq] at hr
  obtain ⟨_,hn1,hn2⟩:=hn
  have hlen:r.length = n.toNat:=by rw [← hr,ZnF]; omega
  obtain ⟨a',c',hv,h1,h2,h3⟩:=h.slice
  simp only [Value.slice.injEq] at hv
  obtain ⟨rfl,rfl,rfl⟩:=hv
  refine ⟨RV.mk_slice (by omega) h2 fun hl=>?_,hn1,by omega,hlen⟩
  obtain ⟨ad,e1,e2,e3⟩:=h3 fun e=>hl (by rw [← hr,e]; simp)
  refine ⟨ad,e1,e2,Zb4 fun i x hx=>Zah e3 ?_⟩
  rw [← hr,Zok] at hx
  split at hx
  ·exact hx
  ·cases hx
 ·cases hr
end
section
variable {P:Program} {B:Bs} {N:Nat} {σ:List (Nat × Value)} {Γ:List HP} {Φ:List RF} {a:Act} {w:World} {Q:Exit → Act → World → Prop} {draw:Bool} {ms:List Nat} {ops:Array Oper} {pds:List Pd} {j:Nat} {dst:Option Tmp} {t ty:TypeId} {x:Operand} {pos:String} {af:Array Edge} {g:Option (Nat × Bool)}
theorem Ava.front {α:Type} [Rep α] {b:Option Addr} {n0 cp:Nat} {l r:List α} {n:Int} (hr:cut? l 0 n = some r) (h:Ava Γ Φ w (RO (.slice b n0 cp) l)):Ava Γ Φ w (RO (L b r cp) r):=fun S F hs hf=>(Zky (h S F hs hf) hr).1
end
section
variable {P:Program} {Q:Exit → Act → World → Prop} {w:World} {N:Nat}
def seqZ (P:Program) (N:Nat) (ops:Array Oper):List (Int × Int × Int) → List Nat → List (Nat × Value) → Option (List (Nat × Value) × List (Value × Value))
  | _,[],σ=>some (σ,[])
  | zs, i :: is, σ =>
    match ops[i]? with
    | some o =>
      (match o.guard, o.dst with
       | none, some d =>
         if decide (d < N) then
           (match o.op with
            | .binOp .shl _ x y _ =>
              (match zs, opd σ x, opd σ y with
               | (m,n,z) :: zs,some u,some v=>(seqZ P N ops zs is ((d,.int .i64 z) :: σ)).map fun l=>(l.1,(u,.int .i64 m) :: (v,.int .i64 n) :: l.2)
               | _,_,_=>none)
            | _ =>
              (match pe P (opd σ) o.op with
               | some v=>seqZ P N ops zs is ((d,v) :: σ)
               | none=>none))
         else none
       | _,_=>none)
    | none=>none
theorem Zej {fuel:Nat} {ops:Array Oper} (hns:Region.noSelect ops = true) (hQ:∀ c a d v w,Q (.panic c) (Act.put a (some d) v) w → Q (.panic c) a w) :
  ∀ (is:List Nat) (zs:List (Int × Int × Int)) (e:List (Value × Value)) (L:Array Bool) (σ σ1:List (Nat × Value)) (a:Act),FrS N σ a → takesB ops L is = true → AllP (fun q=>shl? q.1 q.2.1 = some q.2.2) zs → seqZ P N ops zs is σ = some (σ1,e) → e.map (·.1) = e.map (·.2) →
   (∀ a',FrS N σ1 a' → wpAny P .any ops Q fuel (is.foldl (fun L i=>L.setIfInBounds i true) L) a' w) → wpAny P .any ops Q (fuel + is.length) L a w
 | [],zs,e,L,σ,σ1,a,hF,_,_,hq,_,h=>by
  simp only [seqZ,Option.some.injEq,Prod.mk.injEq] at hq
  obtain ⟨rfl,_⟩:=hq
  exact h a hF
 | i :: is,zs,e,L,σ,σ1,a,hF,ht,hz,hq,he,h=>by
  simp only [takesB,ZnB] at ht
  obtain ⟨⟨h1,h2⟩,h3⟩:=ht
  unfold seqZ at hq
  split at hq
  ·rename_i o ho
   split at hq
   ·rename_i d hg hd
    split at hq
    ·rename_i hdN
     have hdN:=of_decide_eq_true hdN
     have go:∀ (v:Value) (zs':List (Int × Int × Int)) (e':List (Value × Value)),(∀ w,(execOp a.eval o).run P w = .ok (.value v) w) → AllP (fun q=>shl? q.1 q.2.1 = some q.2.2) zs' → seqZ P N ops zs' is ((d,v) :: σ) = some (σ1,e') → e'.map (·.1) = e'.map (·.2) →
       wpAny P .any ops Q (fuel + (i :: is).length) L a w:=by
      intro v zs' e' hrun hz' hq' he'
      have hw:Region.wanted o (yielded ops a.tmps) = true:=by simp [Region.wanted,hg]
      have hy:Yields P ops o v a:=.inl ⟨hw,hrun⟩
      refine wpAny_take (fuel:=fuel + is.length) ho hns h1 h2 (fun c a w=>by rw [hd]; exact hQ c a d v w) hy ?_
      rw [hd]
      exact Zej hns hQ is zs' e' _ _ σ1 _ (hF.put hdN v) h3 hz' hq' he' h
     split at hq
     ·rename_i t x y yt hop
      split at hq
      ·rename_i m n z zs' u v hx hy
       cases hq2:seqZ P N ops zs' is ((d,.int .i64 z) :: σ) with
       | none=>rw [hq2] at hq; cases hq
       | some e'=>
        rw [hq2] at hq
        simp only [ZnM,Option.some.injEq,Prod.mk.injEq] at hq
        obtain ⟨g1,hq⟩:=hq
        subst hq
        simp only [ZnE,List.cons.injEq] at he
        obtain ⟨rfl,rfl,he⟩:=he
        obtain ⟨hz1,hz2⟩:=hz
        refine go _ zs' e'.2 (fun w=>?_) hz2 (by rw [hq2,← g1]) he
        have:=ZfL (P:=P) (kd:=.i64) hz1 t w
        simp only [execOp,hop,Zd hF hx,Zd hF hy]
        simp [eqGuard,this]
      ·cases hq
     ·split at hq
      ·rename_i v hv
       exact go v zs e (fun w=>ZbR (P:=P) (ρ':=a.eval) (fun x u hx=>Zd hF hx) hv w) hz hq he
      ·cases hq
    ·cases hq
   ·cases hq
  ·cases hq
variable {B:Bs} {σ:List (Nat × Value)} {Γ:List HP} {Φ:List RF} {a:Act}
theorem AtZ {ops:Array Oper} {L:Array Bool} (fuel:Nat) (is:List Nat) (zs:List (Int × Int × Int)) (hz:AllP (fun q=>shl? q.1 q.2.1 = some q.2.2) zs) (σ':List (Nat × Value)) (c:Cx B N σ Γ Φ a w) (h:∀ a',Cx B N σ' Γ Φ a' w → wpAny P .any ops Q fuel (is.foldl (fun L i=>L.setIfInBounds i true) L) a' w) (hns:Region.noSelect ops = true:=by kernel_rfl) (ht:takesB ops L is = true:=by kernel_rfl)
  (hs:(seqZ P N ops zs is σ).map (fun s=>(σ'.map fun p=>s.1.lookup p.1,s.2.map (·.1))) = some (σ'.map fun p=>some p.2,((seqZ P N ops zs is σ).map (fun s=>s.2.map (·.2))).getD []):=by kernel_rfl) (hQ:∀ c a d v w,Q (.panic c) (Act.put a (some d) v) w → Q (.panic c) a w:=by exact fun _ _ _ _ _ h=>h):wpAny P .any ops Q (fuel + is.length) L a w:=by
 cases hq:seqZ P N ops zs is σ with
 | none=>rw [hq] at hs; cases hs
 | some s=>
  rw [hq] at hs
  simp only [ZnM,Zol,Option.some.injEq,Prod.mk.injEq] at hs
  exact Zej hns hQ is zs s.2 L σ s.1 a c.fr ht hz hq hs.2 fun a' hF'=>h a' (c.to (hF'.sub σ' hs.1))
end
end Go.GL
end
