/- Texts of this claim put into one: library or plain laws, without the program under test. -/
import Derived.Test.YthlolmkdppfioaaGreatLib3
import Derived.Maps.RangeWalk
import Derived.Shelf.SlSortCmp.NoneTotal
import Derived.Lib.Strings
set_option linter.unusedSimpArgs false
set_option linter.unusedVariables false
section
set_option linter.unusedVariables false
namespace Go.GL
open Go.RowKit Go.Maps
theorem Zgu {H:Type} {P:Program} {k:TypeId} {R:Value → Option (DataW H × List MemPlace)} {w w':World} {S:Nat → Prop} {b r n cnt:Nat} {D:DataW H} {left:Lit → Bool}
  (h:w.ranges P k R b r n D left cnt) (hc:Chg S w w') (hb:¬ S b) (hr:¬ S r):w'.ranges P k R b r n D left cnt:=by
 have h1:=h.owns.lt
 have h2:=h.lt
 obtain ⟨es,clock,since,seen,c0,hb',F,hs,hD,hr',rest⟩:=h
 exact ⟨es,clock,since,seen,c0,(hc.block b h1 hb).trans hb',F,hs,hD,(hc.block r h2 hr).trans hr',rest⟩
theorem Chg.of_grownN {w w':World} (h:w.grownBy w' none):Chg Non w w':=⟨h.os,h.tape,h.output,h.size,fun k hk _=>h.block k hk (by simp)⟩
section
variable {P:Program} {K V:TypeId} {κ β:Type} [Flat κ] [Flat β] [DecidableEq κ]
def RG (T:MapT P K V κ β) (b r:Nat) (m:List (κ × β)) (left:Lit → Bool) (cnt:Nat):HP where
 ok w A:=(∃ n,w.ranges P K T.R b r n (T.D m) left cnt) ∧ (∀ p ∈ m,T.fit p.1 = true) ∧ A b ∧ A r
 mono:=fun ⟨⟨n,h⟩,hf,hb,hr⟩ hA=>⟨⟨n,h⟩,hf,hA _ h.owns.lt hb,hA _ h.lt hr⟩
 keep:=fun ⟨⟨n,h⟩,hf,hb,hr⟩ hc hT=>⟨⟨n,Zgu h hc (hT _ hb) (hT _ hr)⟩,hf,hb,hr⟩
omit [DecidableEq κ] in
theorem MapT.none_ (T:MapT P K V κ β) {kl:Lit} (z:DataW Value):∀ m:List (κ × β),(∀ p ∈ m,T.lit p.1 ≠ kl) → (T.D m).atKey kl z = z
 | [],_=>rfl
 | (u,y) :: m,h=>by
  rw [MapT.D,atKey_put_other (fun e=>h (u,y) ZlK e.symm)]
  exact MapT.none_ T z m fun p hp=>h p (ZlQ _ hp)
omit [Flat κ] [Flat β] in
theorem Zdf {x:κ}:∀ {m:List (κ × β)},(∃ p ∈ m,p.1 = x) → ∃ y,m.lookup x = some y
 | [],⟨p,hp,_⟩=>by cases hp
 | (u,y) :: m,h=>by
  by_cases e:x = u
  ·subst e; exact ⟨y,by simp [List.lookup]⟩
  ·have e' : (x == u) = false := by simpa using e
   obtain ⟨p,hp,rfl⟩:=h
   rcases Zmd.1 hp with rfl | hp
   ·exact absurd rfl e
   ·obtain ⟨z, hz⟩ := Zdf (x := p.1) ⟨p, hp, rfl⟩
    exact ⟨z,by rw [Zmb,e']; exact hz⟩
theorem MapT.came (T:MapT P K V κ β) {m:List (κ × β)} (hf:∀ p ∈ m,T.fit p.1 = true) {kl:Lit} {v:Value} {y:DataW Value × List MemPlace} (hv:T.R v = some y) (hat:∀ zd,(T.D m).atKey kl zd = y.1) :
  ∃ x z,T.fit x = true ∧ T.lit x = kl ∧ m.lookup x = some z ∧ v = Rep.val β (Flat.enc z):=by
 by_cases hk:∃ p ∈ m,T.lit p.1 = kl
 ·obtain ⟨p, hp, rfl⟩ := hk
  have hfit:=hf p hp
  obtain ⟨z,hz⟩:=Zdf (x:=p.1) ⟨p,hp,rfl⟩
  refine ⟨p.1,z,hfit,rfl,hz,?_⟩
  have h1:=hat (.map [])
  rw [T.at_ hfit _ m hf,hz] at h1
  simp only at h1
  obtain ⟨y1,ps⟩:=y
  simp only at h1; subst h1
  exact T.back v z ps hv
 ·exfalso
  have hn:∀ p ∈ m,T.lit p.1 ≠ kl:=fun p hp e=>hk ⟨p,hp,e⟩
  have h1:=hat (.lit (.bool true))
  have h2:=hat (.lit (.bool false))
  rw [T.none_ _ m hn] at h1 h2
  rw [← h2] at h1
  cases h1
end
section
variable {P:Program} {B:Bs} {N:Nat} {σ:List (Nat × Value)} {Γ:List HP} {Φ:List RF} {a:Act} {w:World} {Q:Exit → Act → World → Prop} {K':Act → World → Prop}
  {ops:Array Oper} {k d:Nat} {t t' ty yt:TypeId} {pos:String} {af:Array Edge} {x y:Operand}
  {K V:TypeId} {κ β:Type} [Flat κ] [Flat β] [DecidableEq κ] {T:MapT P K V κ β} {b r:Nat} {m:List (κ × β)} {left:Lit → Bool} {cnt:Nat}
theorem Ern (i:Nat) (c:Cx B N σ Γ Φ a w)
  (h:∀ r fr w',Cx B N ((d,.pointer (some ⟨r,0,none⟩)) :: σ) (Γ.set i (RG T b r m (Maps.has (T.D m)) (Maps.size (T.D m)))) Φ fr w' → wpFrom P ops Q (k + 1) fr w') (hi:Γ[i]? = some (MP T b m):=by rfl)
  (ho:ops[k]? = some ⟨some d,.range t x,ty,pos,af,none⟩:=by rfl) (hd:Nat.blt d N = true:=by rfl) (ht:P.underlying t = some (.map K V):=by kernel_rfl) (hx:opd σ x = some (.map (some b)):=by kernel_rfl):wpFrom P ops Q k a w:=by
 obtain ⟨hF,S,F,hM,hs,hf⟩:=c
 obtain ⟨A,⟨hown,hA⟩,hup⟩:=hs.upd i hi hM
 obtain ⟨w',hrun,hrg,hg,hsz⟩:=hown.1.range T.keyed ht
 refine ZC hF ho rfl rfl (Zmn.mp hd) (R:=fun z w1=>z = .pointer (some ⟨w.heap.size,0,none⟩) ∧ w1 = w') (Zl ?_ ⟨rfl,rfl⟩) fun z w1 fr hz hF'=>?_
 ·simp [execOp,Zg hF hx,hrun]
 ·obtain ⟨rfl, rfl⟩ := hz
  obtain ⟨S',hp,hs'⟩:=hup (P':=RG T b w.heap.size m (Maps.has (T.D m)) (Maps.size (T.D m))) (Chg.of (Chg.of_grownN hg)) ⟨⟨_,hrg⟩,hown.2,.inl hA,.inr (ZlG _)⟩
  exact h _ fr w1 ⟨hF',S',F,hM.stp hp,hs',hf.chg hp.chg fun k hk hS=>hM.dj k hS hk⟩
theorem Enx (i:Nat) (hback:∀ key x,keyOf P K key = some (T.lit x) → key = Rep.val κ (Flat.enc x)) (c:Cx B N σ Γ Φ a w)
  (h0:(∀ kl,left kl = false) → ∀ fr,Cx B N ((d,.tuple #[.bool false]) :: σ) Γ Φ fr w → wpFrom P ops Q (k + 1) fr w)
  (h1 : ∀ (u : κ) (z : β) cnt' fr w', T.fit u = true → m.lookup u = some z → left (T.lit u) = true → cnt' < cnt → (Instr.entry (.pointer (some ⟨r, 0, none⟩))).run P w' = .ok (.tuple #[Rep.val κ (Flat.enc u), Rep.val β (Flat.enc z)]) w' →
   Cx B N ((d,.tuple #[.bool true,Rep.val κ (Flat.enc u),Rep.val β (Flat.enc z)]) :: σ) (Γ.set i (RG T b r m (fun q=>left q && !q.sameKey (T.lit u)) cnt')) Φ fr w' → wpFrom P ops Q (k + 1) fr w')
  (hi:Γ[i]? = some (RG T b r m left cnt):=by rfl) (ho:ops[k]? = some ⟨some d,.next x false,ty,pos,af,none⟩:=by rfl) (hd:Nat.blt d N = true:=by rfl) (hx:opd σ x = some (.pointer (some ⟨r,0,none⟩)):=by kernel_rfl):wpFrom P ops Q k a w:=by
 obtain ⟨hF,S,F,hM,hs,hf⟩:=c
 obtain ⟨A,⟨⟨n,hrg⟩,hfit,hAb,hAr⟩,hup⟩:=hs.upd i hi hM
 rcases hrg.next T.keyed ty with ⟨_,hl,hrun⟩ | ⟨key,v,kl,y,w',cnt',hkey,hlk,hv,hat,hrun,hrg',hlt,hgr,hsz,hen⟩
 ·refine ZC hF ho rfl rfl (Zmn.mp hd) (R := fun z w1 => z = .tuple #[.bool false] ∧ w = w1) (Zl ?_ ⟨rfl, rfl⟩) fun z w1 fr hz hF' => ?_
  ·simp [execOp,Zg hF hx,hrun]
  ·obtain ⟨rfl, rfl⟩ := hz
   exact h0 hl fr ⟨hF',S,F,hM,hs,hf⟩
 ·obtain ⟨u, z, hu, rfl, hz, rfl⟩ := T.came hfit hv hat
  obtain rfl:=hback key u hkey
  refine ZC hF ho rfl rfl (Zmn.mp hd) (R:=fun q w1=>q = .tuple #[.bool true,Rep.val κ (Flat.enc u),Rep.val β (Flat.enc z)] ∧ w1 = w') (Zl ?_ ⟨rfl,rfl⟩) fun q w1 fr hq hF'=>?_
  ·simp [execOp,Zg hF hx,hrun]
  ·obtain ⟨rfl, rfl⟩ := hq
   have hc:Chg A w w1:=(Chg.of_grown hgr).mono fun k hk=>by subst hk; exact hAr
   obtain ⟨S',hp,hs'⟩:=hup (P':=RG T b r m (fun q=>left q && !q.sameKey (T.lit u)) cnt') hc ⟨⟨n,hrg'⟩,hfit,.inl hAb,.inl hAr⟩
   exact h1 u z cnt' fr w1 hu hz hlk hlt hen ⟨hF',S',F,hM.stp hp,hs',hf.chg hp.chg fun k hk hS=>hM.dj k hS hk⟩
theorem Een {v:Value} (c:Cx B N σ Γ Φ a w) (hen:(Instr.entry (.pointer (some ⟨r,0,none⟩))).run P w = .ok v w) (h:∀ fr,Cx B N ((d,v) :: σ) Γ Φ fr w → wpFrom P ops Q (k + 1) fr w)
  (ho:ops[k]? = some ⟨some d,.entry x,ty,pos,af,none⟩:=by rfl) (hd:Nat.blt d N = true:=by rfl) (hx:opd σ x = some (.pointer (some ⟨r,0,none⟩)):=by kernel_rfl):wpFrom P ops Q k a w:=
 ZC c.fr ho rfl rfl (Zmn.mp hd) (R:=fun q w1=>q = v ∧ w = w1) (Zl (by simp [execOp,Zg c.fr hx,hen]) ⟨rfl,rfl⟩) fun q w1 fr hq hF'=>by
  obtain ⟨rfl,rfl⟩:=hq
  exact h fr (c.to hF')
theorem ZjW {c:Code} (I:Nat → Act → World → Prop) {n:Nat} (h0:I n a w) (round:∀ n a w,I n a w → c.wp P (Exit.then (fun a' w'=>∃ n',n' < n ∧ I n' a' w') Q) a w):(Code.loop c).wp P Q a w:=by
 have key:∀ n a w,I n a w → ∀ (b:Frame) (K:List Item) (cs:List Frame),
   ∃ e a' w',Q e a' w' ∧ Arrives P (lone (b.at a (.code c :: .inLoop c :: K)) cs w) b K cs e a' w':=by
  intro n
  induction n using Nat.strongRecOn with
  | ind n ih=>
   intro a w hI b K cs
   obtain ⟨e,a₁,w₁,hq,harr⟩:=round n a w hI b (.inLoop c :: K) cs
   cases e with
   | normal=>
    obtain ⟨n',hn,hI'⟩:=hq
    obtain ⟨e₂,a₂,w₂,hq₂,harr₂⟩:=ih n' hn a₁ w₁ hI' b K cs
    exact ⟨e₂,a₂,w₂,hq₂,.of_steps (Steps.trans harr (.one step_inLoop)) harr₂⟩
   | exit id=>exact ⟨_,a₁,w₁,hq,.pass (x:=.inLoop c) rfl (fun _ _=>.inl (by simp)) harr⟩
   | goto l=>exact ⟨_,a₁,w₁,hq,.pass (x:=.inLoop c) rfl (fun _ _=>.inl (by simp)) harr⟩
   | ret=>exact ⟨_,a₁,w₁,hq,.pass (x:=.inLoop c) rfl (fun _ _=>.inl (by simp)) harr⟩
   | panic ch=>exact ⟨_,a₁,w₁,hq,.pass (x:=.inLoop c) rfl (fun _ _=>.inl (by simp)) harr⟩
   | outgrown=>exact ⟨_,a₁,w₁,hq,.pass (x:=.inLoop c) rfl (fun _ _=>.inl (by simp)) harr⟩
 intro b K cs
 obtain ⟨e,a',w',hq,harr⟩:=key n a w h0 b K cs
 exact ⟨e,a',w',hq,.of_steps (.one step_loop) harr⟩
theorem LpW {id:Nat} {bd:Code} (I:Nat → Act → World → Prop) (M:Act → World → Prop) {n:Nat} (h0:I n a w)
  (round:∀ n a w,I n a w → bd.wp P (Exit.then (fun a' w'=>∃ n',n' < n ∧ I n' a' w') (Exit.inBlock id (Exit.then M Q))) a w) (cont:∀ a w,M a w → K' a w):(Code.block id (.loop bd)).wp P (Exit.then K' Q) a w:=
 wp_cut (wp_block (ZjW I h0 round)) cont
end
open Go.RowKit Go.Shelf Go.Sort Go.Proofs Go.Lib
theorem ZeY {w:World} {g:Nat} {cur:Array Value} {e:TypeId} {F:Array Value} (hb:w.heap[g]? = some (.cells cur e (0,0))) (ht:cur.toList.take F.size = F.toList):Holds id w g 0 F:=by
 intro j hj
 refine ⟨?_,by simp [World.frozen?,hb]⟩
 have h1:(cur.toList.take F.size)[j]? = F.toList[j]?:=by rw [ht]
 rw [ZnL hj] at h1
 simp only [World.cell?,hb,ZmW,ZnV,Zl2,ZlC]
 rw [← ZmX,h1]
 simp [hj]
theorem Zfi {w:World} {g n:Nat} {os:Array Obj} {cur:Array Value} {e:TypeId} {fr:Nat × Nat} (F:Array Value) (hb:w.heap[g]? = some (.cells cur e fr)) :
  (grow (putRow id (Sort.ahead w n) g 0 F) os).heap[g]? = some (.cells (putCells id 0 F cur) e fr):=by
 have hg:g < w.heap.size:=(ZlN.1 hb).1
 rw [heap_grow_old _ _ (by simpa using hg)]
 simp [putRow,mapBlock,Sort.ahead,Array.getElem?_modify,hb,onCells]
theorem Zdj {w:World} {g n:Nat} {os:Array Obj} (F:Array Value):w.grownBy (grow (putRow id (Sort.ahead w n) g 0 F) os) (some g):=by
 refine ⟨rfl,rfl,rfl,by simp,fun k hk hne=>?_⟩
 rw [heap_grow_old _ _ (by simpa using hk)]
 have:g ≠ k:=fun e=>hne (by rw [e])
 simp [putRow,mapBlock,Sort.ahead,Array.getElem?_modify,this]
theorem ZdU (cur F:Array Value) (h:F.size ≤ cur.size):(putCells id 0 F cur).toList.take F.size = F.toList:=by
 apply ZmC
 intro j
 by_cases hj:j < F.size
 ·rw [ZnL hj, ZmX]
  simp [putCells,hj,show j < cur.size by omega]
 ·rw [List.getElem?_take_eq_none (by omega),ZlT (by simpa using hj)]
section
variable {α:Type} [Flat α] [Inhabited α]
omit [Inhabited α] in
theorem Zh1 (x:α):(Flat.enc x).length = Rep.sz α:=Rep.len (w:=default) (F:=Non) (Flat.iff.2 rfl:Rep.ok default Non (Flat.enc x) x)
omit [Inhabited α] in
theorem Zgh {w:World} {F:Nat → Prop} {css:List (List Value)} {l:List α} (h1:Css w F css l):css = l.map Flat.enc:=by
 apply ZmC
 intro i
 rw [ZlS]
 by_cases hi:i < l.length
 ·have hc : i < css.length := by rw [h1.1]; exact hi
  have:=h1.2 i css[i] l[i] (Zl1 hc) (Zl1 hi)
  rw [Zl1 hc,Zl1 hi,Flat.iff.1 this]; rfl
 ·rw [ZlT (by rw [h1.1]; omega),ZlT (by omega)]; rfl
omit [Flat α] [Inhabited α] in
theorem Zhr {k:Nat} (enc:α → List Value) (hk:∀ x,(enc x).length = k) (h0:0 < k):∀ (l:List α) (t:Nat),(l.map enc).flatten[t]? = (l[t / k]?).bind fun x=>(enc x)[t % k]?
 | [],t=>by simp
 | x :: l,t=>by
  rw [ZlA,ZmB]
  by_cases h:t < k
  ·rw [ZlL (by rw [hk]; exact h),ZmN h,Znb h]; rfl
  ·rw [ZlD (by rw [hk]; omega), hk, Zhr enc hk h0 l]
   obtain ⟨u,rfl⟩ : ∃ u,t = u + k:=⟨t - k,by omega⟩
   rw [Zor,Nat.add_div_right _ h0,Nat.add_mod_right]; rfl
omit [Flat α] in
theorem ZgH {k:Nat} (enc:α → List Value) (hk:∀ x,(enc x).length = k) (h0:0 < k) (l:List α):(flatK enc k l.toArray).toList = (l.map enc).flatten:=by
 have hlen:(l.map enc).flatten.length = l.length * k:=by
  clear h0
  induction l with
  | nil=>simp
  | cons x l ih=>rw [ZlA,ZmB,ZlF,hk,ih,ZlP,Znk,ZnH,Nat.add_comm]
 apply ZmC
 intro t
 by_cases ht:t < l.length * k
 ·rw [Zhr enc hk h0]
  have hq:t / k < l.length:=Nat.div_lt_of_lt_mul (by rw [Zmv]; exact ht)
  have hm:t % k < k:=Nat.mod_lt _ h0
  have h1:=get_flatK enc k l.toArray t (by simpa using ht)
  have h2:t < (flatK enc k l.toArray).size:=by simpa using ht
  rw [ZmX,Zm1 h2]
  rw [getElem!_pos _ t h2] at h1
  rw [h1]
  have h3:l.toArray[t / k]! = l[t / k]:=by simp [hq]
  rw [h3,Zl1 hq]
  simp only [Zl0]
  rw [Zl1 (by rw [hk]; exact hm),getElem!_pos _ _ (by rw [hk]; exact hm)]
 ·rw [ZlT (by simpa using ht),ZlT (by rw [hlen]; omega)]
theorem OwnS.sortedF {w:World} {E:TypeId} {go:Option Nat} {G:Nat → Prop} {a:Option Addr} {n c:Nat} {l:List α} (h:OwnS w E go G Non (.slice a n c) l) (hl:n ≠ 0) (h0:0 < Rep.sz α) :
  n = l.length ∧ ∃ g,a = some ⟨g,0,none⟩ ∧ g < w.heap.size ∧ HoldsK Flat.enc (Rep.sz α) w g 0 l.toArray ∧
   ∀ k os (l':List α),l'.length = l.length → OwnS (grow (putRowK Flat.enc (Rep.sz α) (Sort.ahead w k) g 0 l'.toArray) os) E go G Non (.slice a n c) l' ∧ Chg (fun k=>go = some k) w (grow (putRowK Flat.enc (Rep.sz α) (Sort.ahead w k) g 0 l'.toArray) os):=by
 obtain ⟨F,css,h1,h2,h3,h4,h5⟩:=h
 rcases h2.2 with ⟨hn,hz⟩ | ⟨g,cap,cur,hv,hb,hg,hnc,hcm,hcs,htake⟩
 ·simp only [Value.slice.injEq] at hn
  exact absurd hn.2.1 hl
 simp only [Value.slice.injEq] at hv
 obtain ⟨rfl,rfl,rfl⟩:=hv
 obtain rfl:=Zgh h1
 have hgo:go = some g:=by rw [← h3]; rfl
 have hgs:g < w.heap.size:=(ZlN.1 hg).1
 have hfl:∀ l':List α,(flatK Flat.enc (Rep.sz α) l'.toArray).toList = (l'.map Flat.enc).flatten:=fun l'=>ZgH _ Zh1 h0 l'
 have hsz:∀ l':List α,(flatK Flat.enc (Rep.sz α) l'.toArray).size = l'.length * Rep.sz α:=fun l'=>by simp
 refine ⟨rfl,g,rfl,hgs,ZeY hg (by rw [hsz,hfl]; exact htake),fun k os l' hlen=>?_⟩
 have hgr:=Zdj (w:=w) (g:=g) (n:=k) (os:=os) (flatK Flat.enc (Rep.sz α) l'.toArray)
 have hchg:Chg (fun k=>go = some k) w (grow (putRowK Flat.enc (Rep.sz α) (Sort.ahead w k) g 0 l'.toArray) os):=
  ⟨hgr.os,hgr.tape,hgr.output,hgr.size,fun k hk hn=>hgr.block k hk fun e=>hn (by rw [hgo]; exact e.symm)⟩
 have htk:=ZdU cur (flatK Flat.enc (Rep.sz α) l'.toArray) (by rw [hsz,hlen,hcs]; exact Znl _ hnc)
 rw [hsz,hfl] at htk
 refine ⟨⟨Non,l'.map Flat.enc,ZaW _,⟨?_,.inr ⟨g,c,_,by rw [hlen],hb,Zfi _ hg,by rw [hlen]; exact hnc,hcm,by simpa [putCells] using hcs,htk⟩⟩,h3,fun g' hg'=>⟨(h4 g' hg').1,id⟩,fun _ h=>h.elim⟩,hchg⟩
 rw [← hfl,Zm9,hsz]
def SrtP (cf:α → α → Int) (l l':List α):Prop:=l'.Perm l ∧ l'.Pairwise fun x y=>ltOf cf y x = false
omit [Flat α] in
theorem ZkH {cf:α → α → Int} {l:List α} {d':Array α} (hp:PermIn 0 l.toArray.size l.toArray d') (hs:SortedIn (ltOf cf) 0 l.toArray.size d'):SrtP cf l d'.toList:=by
 obtain ⟨h1,_,h3⟩:=hp
 have e:d'.extract 0 l.toArray.size = d':=by rw [← h1]; simp
 rw [e] at h3
 refine ⟨by simpa using h3,ZmT.2 fun i j hi hj hij=>?_⟩
 have h:=hs i j (ZmI _) hij (by rw [← h1]; simpa using hj)
 rw [getElem!_pos d' i (by simpa using hi),getElem!_pos d' j (by simpa using hj)] at h
 simpa using h
theorem ZhS {P:Program} {ρ:Ren} (Ly:SlLaysF0.n6 P ρ) {f g:Nat} (hf:ρ.f 6 = f) (aE:∀ w,(isAgg (ρ.t 24)).run P w = .ok true w) (zE:∀ w,(Go.sizeOf (ρ.t 24)).run P w = .ok (Rep.sz α) w) (h0:0 < Rep.sz α) (h1:∀ x:α,∀ v ∈ Flat.enc x,v.oneCell' = true)
  (cf:α → α → Int) (hO:SWO (ltOf cf)) (eg:∀ args w,(callFunc g args).run P w = .ok (.enter g args) w)
  (hcmp:∀ (x y:α) W,Calls P g #[.agg (Flat.enc x).toArray,.agg (Flat.enc y).toArray] W fun e w'=>e = .returned (.int .i64 (cf x y)) ∧ ∃ q os',w' = grow (W.drewN q) os')
  {E:TypeId} {l:List α} (hl:l.length < 4611686018427387904) {a:Option Addr} {n c:Nat} :
  Con P f [.slice a n c,.func (.func g) #[] #[]] [SL E (.slice a n c) l] [] fun (i:{l':List α // SrtP cf l l'})=>([],[SL E (.slice a n c) i.1],[]):=by
 subst hf
 intro w S F hs hfx hS hF hd
 have hM:Mem w S F w S F:=Mem.start hS hF hd
 obtain ⟨hn,_⟩:=hs.relen 0 rfl
 obtain ⟨A,hok,hup⟩:=hs.upd 0 rfl hM
 by_cases hz:n = 0
 ·have hnil : l = [] := ZmG (by omega)
  subst hz hnil
  refine (AnyF.slices_SortFunc_none Ly a c (.func (.func g) #[] #[]) w).mono ?_
  rintro e w' ⟨rfl,rfl⟩
  exact ⟨⟨[],List.Perm.nil,List.Pairwise.nil⟩,S,F,rfl,hM,hs,fun R hR=>by cases hR⟩
 ·rcases hok with ⟨go, ho⟩ | ⟨rfl, q, hq⟩
  ·obtain ⟨rfl, b, rfl, hb, hH, hnext⟩ := ho.sortedF hz h0
   have hc:CmpLays P g #[] Flat.enc (Rep.sz α) cf b 0 l.toArray.size w:=fun m os dk _ x y=>hcmp x y _
   refine (AnyQ.slices_SortFunc Ly (Rep.sz α) aE zE Flat.enc Zh1 h1 cf hO g #[] b 0 c l.toArray w eg hc hH hb (by simpa using hl)).mono ?_
   rintro e w' ⟨rfl,d',m,os,hp,hsd,rfl⟩
   have hsr:=ZkH hp hsd
   obtain ⟨g1,g2⟩:=hnext m os d'.toList (by simpa using hp.1)
   obtain ⟨S',hp',hs'⟩:=hup (P':=SL E (.slice (some ⟨b,0,none⟩) l.length c) d'.toList) (g2.mono fun k hk=>ho.inG hk) (.inl ⟨go,g1.regard fun k _ hk=>.inl hk⟩)
   refine ⟨⟨d'.toList,hsr⟩,S',F,rfl,?_,?_,fun R hR=>by cases hR⟩
   ·simpa [sortWorldK] using hM.stp hp'
   ·simpa [sortWorldK] using hs'
  ·simp only [Value.slice.injEq] at hq
   exact absurd hq.2.1 hz
end
theorem Zes:∀ x:List UInt8,Op.bytesLess x x = false
 | []=>rfl
 | a :: x=>by simp [Op.bytesLess,Zes x]
theorem Zdc:∀ x y z:List UInt8,Op.bytesLess x y = true → Op.bytesLess y z = true → Op.bytesLess x z = true
 | _,_,[]=>by intro _ h; cases ‹List UInt8› <;> simp [Op.bytesLess] at h
 | _,[],_ :: _=>by intro h _; cases ‹List UInt8› <;> simp [Op.bytesLess] at h
 | [],_ :: _,_ :: _=>by intro _ _; rfl
 | a :: x,b :: y,c :: z=>by
  intro h1 h2
  simp only [Op.bytesLess,Zmx,ZlE,Zl6,ZmE] at h1 h2 ⊢
  rcases h1 with h1 | ⟨rfl,h1⟩
  ·rcases h2 with h2 | ⟨rfl, h2⟩
   ·exact .inl (UInt8.lt_trans h1 h2)
   ·exact .inl h1
  ·rcases h2 with h2 | ⟨rfl, h2⟩
   ·exact .inl h2
   ·exact .inr ⟨rfl,Zdc x y z h1 h2⟩
theorem Zeq:∀ x y:List UInt8,Op.bytesLess x y = false → x ≠ y → Op.bytesLess y x = true
 | [],[]=>fun _ h=>absurd rfl h
 | _ :: _,[]=>fun _ _=>rfl
 | [],_ :: _=>fun h _=>by simp [Op.bytesLess] at h
 | a :: x,b :: y=>by
  intro h1 h2
  simp only [Op.bytesLess,Znm,decide_eq_false_iff_not,Zmx,ZlE,Zl6,ZmE] at h1 ⊢
  by_cases e:a = b
  ·subst e
   have:Op.bytesLess x y = false:=by simpa using h1.2
   exact .inr ⟨rfl,Zeq x y this (fun h=>h2 (by rw [h]))⟩
  ·rcases UInt8.lt_or_lt_of_ne e with h | h
   ·exact absurd h h1.1
   ·exact .inl h
theorem ZgO (a b:Str):Str.ltb a b = Op.bytesLess a.bytes b.bytes:=by unfold Str.ltb; rw [show ∀ l:List UInt8,(ByteArray.mk l.toArray).toList = l from fun l=>Go.Lib.toList_data _,show ∀ l:List UInt8,(ByteArray.mk l.toArray).toList = l from fun l=>Go.Lib.toList_data _]
theorem Zbg (a:Str):Str.ltb a a = false:=by rw [ZgO]; exact Zes _
theorem ZaR {a b c:Str} (h1:Str.ltb a b = true) (h2:Str.ltb b c = true):Str.ltb a c = true:=by rw [ZgO] at *; exact Zdc _ _ _ h1 h2
theorem Zfd {a b:Str} (h1:Str.ltb a b = false) (h2:a ≠ b):Str.ltb b a = true:=by
 rw [ZgO] at *
 exact Zeq _ _ h1 fun e=>h2 (by cases a; cases b; simpa using e)
abbrev ltV (a b:D.Value):Prop:=Str.ltb a.Name b.Name = true
theorem ZaD:∀ m:List (Str × Int),(vtab m).Pairwise ltV
 | []=>List.Pairwise.nil
 | (s,w) :: m=>by
  have ih:=ZaD m
  unfold vtab
  rw [Zmq,Zny]
  refine ⟨ih.filter _,?_,fun a ha b hb=>?_⟩
  ·rw [Zmt, Znj]
   exact ⟨fun b hb=>(ZlX.1 hb).2,ih.filter _⟩
  ·rw [Zmt] at hb
   have h1:=(ZlX.1 ha).2
   rcases Zmd.1 hb with rfl | hb
   ·exact h1
   ·exact ZaR h1 (ZlX.1 hb).2
theorem ZbA (v:D.Value):∀ m:List (Str × Int),v ∈ vtab m ↔ m.lookup v.Name = some v.W ∧ v.N = 0
 | []=>by simp [vtab]
 | (s,w) :: m=>by
  have ih:=ZbA v m
  unfold vtab
  simp only [ZlY,ZlX,Zmo,ih,Zmb]
  by_cases e:v.Name = s
  ·subst e
   simp only [Zbg,Zl2,and_false,false_or,or_false,ZmU,Option.some.injEq]
   constructor
   ·intro h; rw [h]; exact ⟨rfl,rfl⟩
   ·rintro ⟨h1,h2⟩; cases v; simp_all
  ·have e' : (v.Name == s) = false := by simpa using e
   rw [e']
   have hne:v ≠ ⟨s,w,0⟩:=fun h=>e (by rw [h])
   by_cases h:Str.ltb v.Name s = true
   ·simp only [h, hne, and_true, or_false]
    exact ⟨fun h=>h.elim id fun h=>h.1,.inl⟩
   ·have h' := Zfd (by simpa using h) e
    simp [h,h',hne]
theorem ZiL:∀ {l l':List D.Value},l.Pairwise ltV → l'.Pairwise ltV → (∀ v,v ∈ l ↔ v ∈ l') → l = l'
 | [],[],_,_,_=>rfl
 | [],y :: l',_,_,h=>by have:=(h y).2 ZlK; cases this
 | x :: l,[],_,_,h=>by have:=(h x).1 ZlK; cases this
 | x :: l,y :: l',h1,h2,h=>by
  rw [Znj] at h1 h2
  have hxy:x = y:=by
   rcases Zmd.1 ((h x).1 ZlK) with e | hx
   ·exact e
   ·rcases Zmd.1 ((h y).2 ZlK) with e | hy
    ·exact e.symm
    ·have h3 := ZaR (h1.1 y hy) (h2.1 x hx)
     rw [Zbg] at h3; cases h3
  subst hxy
  congr 1
  refine ZiL h1.2 h2.2 fun v=>?_
  have:=h v
  simp only [Zmd] at this
  constructor
  ·intro hv
   rcases this.1 (.inr hv) with e | hv'
   ·subst e
    have h3:=h1.1 v hv
    unfold ltV at h3; rw [Zbg] at h3; cases h3
   ·exact hv'
  ·intro hv
   rcases this.2 (.inr hv) with e | hv'
   ·subst e
    have h3:=h2.1 v hv
    unfold ltV at h3; rw [Zbg] at h3; cases h3
   ·exact hv'
def cmpS (a b:Str):Int:=if Str.ltb a b then -1 else if Str.gtb a b then 1 else 0
def cmpV (x y:D.Value):Int:=cmpS x.Name y.Name
theorem ZkO (a b:Str):Str.gtb a b = Str.ltb b a:=by
 have h:Str.gtb a b = !(Str.ltb a b || Str.eqb a b):=rfl
 rw [h]
 by_cases e:a = b
 ·subst e
  rw [Zbg]
  have:Str.eqb a a = true:=by unfold Str.eqb; simp
  rw [this]; rfl
 ·have he:Str.eqb a b = false:=by
   unfold Str.eqb
   rw [show ∀ l:List UInt8,(ByteArray.mk l.toArray).toList = l from fun l=>Go.Lib.toList_data _,show ∀ l:List UInt8,(ByteArray.mk l.toArray).toList = l from fun l=>Go.Lib.toList_data _]
   have:a.bytes ≠ b.bytes:=fun h=>e (by cases a; cases b; simpa using h)
   simpa using this
  rw [he,Bool.or_false]
  cases h1:Str.ltb a b with
  | true=>
   cases h2:Str.ltb b a with
   | true=>have:=ZaR h1 h2; rw [Zbg] at this; cases this
   | false=>rfl
  | false=>rw [Zfd h1 e]; rfl
theorem Zdz (x y:D.Value):Go.Proofs.ltOf cmpV x y = Str.ltb x.Name y.Name:=by
 unfold Go.Proofs.ltOf cmpV cmpS
 rw [ZkO]
 cases h1:Str.ltb x.Name y.Name with
 | true=>simp
 | false=>cases h2:Str.ltb y.Name x.Name <;> simp
theorem swoV:Go.Sort.SWO (Go.Proofs.ltOf cmpV) where
 irrefl x:=by rw [Zdz]; exact Zbg _
 trans x y z h1 h2:=by rw [Zdz] at *; exact ZaR h1 h2
 ntrans x y z h1 h2:=by
  rw [Zdz] at *
  cases h:Str.ltb x.Name z.Name with
  | false=>rfl
  | true=>
   by_cases e:x.Name = y.Name
   ·rw [e,h2] at h; cases h
   ·have h3 := Zfd h1 e
    have:=ZaR h3 h
    rw [h2] at this; cases this
theorem Zgy:∀ {l l':List D.Value},(l.Pairwise fun a b=>a.Name ≠ b.Name) → (∀ v ∈ l,v ∈ l') → l.length ≤ l'.length
 | [],_,_,_=>ZmI _
 | x :: l,l',hn,h=>by
  rw [Znj] at hn
  obtain ⟨s,t,rfl⟩:=List.append_of_mem (h x ZlK)
  have:=Zgy (l:=l) (l':=s ++ t) hn.2 fun v hv=>by
   have h1:=h v (ZlQ _ hv)
   rcases ZlY.1 h1 with h2 | h2
   ·exact ZlY.2 (.inl h2)
   ·rcases Zmd.1 h2 with e | h2
    ·exact absurd (by rw [e]) (hn.1 v hv)
    ·exact ZlY.2 (.inr h2)
  simp at this ⊢; omega
theorem ZcF:∀ m:List (Str × Int),(vtab m).length ≤ m.length
 | []=>ZlG _
 | (s,w) :: m=>by
  have ih:=ZcF m
  have key:∀ l:List D.Value,(l.filter fun v=>Str.ltb v.Name s).length + (l.filter fun v=>Str.ltb s v.Name).length ≤ l.length:=by
   intro l
   induction l with
   | nil=>simp
   | cons v l ihl=>
    by_cases h1:Str.ltb v.Name s = true
    ·have h2:Str.ltb s v.Name = false:=by
      cases h:Str.ltb s v.Name with
      | false=>rfl
      | true=>have:=ZaR h1 h; rw [Zbg] at this; cases this
     simp [h1,h2]; omega
    ·by_cases h2 : Str.ltb s v.Name = true
     ·simp [h1,h2]; omega
     ·simp [h1,h2]; omega
  unfold vtab
  have:=key (vtab m)
  simp; omega
end Go.GL
end
section
set_option linter.unusedVariables false
namespace Go.GL
open Go.RowKit
def HP.on (b:Bool) (l:List HP):HP:=cond b (HP.sep l) (HP.pure True)
structure JP where
 z:Int
 h:Hd
instance:Rep JP where
 sz:=2
 agg:=true
 ok:=fun w F cs x=>cs = [.int .i64 x.z,x.h.v]
 len:=by rintro w F cs x rfl; rfl
 one:=by rintro w F cs x rfl u hu; simp at hu; rcases hu with rfl | rfl <;> rfl
 pos:=by decide
 sgl:=fun h=>by cases h
 keep:=fun h _=>h
instance:Flat JP where
 enc:=fun x=>[.int .i64 x.z,x.h.v]
 iff:=Iff.rfl
def PK (E:TypeId) (v:Value) {β:Type} (xs:List β):HP:=.ex fun raws:List JP=>.two (.pure (raws.length = xs.length)) (SL E v raws)
theorem PK.elim {E:TypeId} {v:Value} {β:Type} {xs:List β} {L:List HP} {w:World} {S:Nat → Prop} (h:Sep (PK E v xs :: L) w S):∃ raws:List JP,raws.length = xs.length ∧ Sep (SL E v raws :: L) w S:=by
 obtain ⟨A,R,⟨raws,B,C,h1,h2,h3,h4⟩,k2,k3,k4,k5⟩:=h.cons_ok
 exact ⟨raws,h1,Sep.mk_cons h2 k2 (fun k hc hr=>k3 k (h4 k (.inr hc)) hr) (fun k hc=>k4 k (h4 k (.inr hc))) k5⟩
end Go.GL
end
section
set_option linter.unusedVariables false
end
section
set_option linter.unusedVariables false
namespace Go.GL
open Go.RowKit
section
variable {α:Type} [Rep α] {w:World} {F:Nat → Prop} {b:Option Addr} {n0 c:Nat} {l r:List α} {n:Int}
theorem Zjp (h:RV w F (.slice b n0 c) l) (hr:cut? l 0 n = some r):RV w F (.slice b (List.length r) c) r ∧ 0 ≤ n ∧ n ≤ (c:Int) ∧ r.length = n.toNat:=by
 unfold cut? at hr
 split at hr
 ·rename_i hn
  simp only [Int.toNat_zero,Zn5,Option.some.injEq] at hr
  obtain ⟨_,hn1,hn2⟩:=hn
  have hlen:r.length = n.toNat:=by rw [← hr,Zl8]; omega
  obtain ⟨a',c',hv,h1,h2,h3⟩:=h.slice
  simp only [Value.slice.injEq] at hv
  obtain ⟨rfl,rfl,rfl⟩:=hv
  refine ⟨RV.mk_slice (by omega) h2 fun hl=>?_,hn1,by omega,hlen⟩
  obtain ⟨ad,e1,e2,e3⟩:=h3 fun e=>hl (by rw [← hr,e]; simp)
  refine ⟨ad,e1,e2,Zb7 fun i x hx=>Zaw e3 ?_⟩
  rw [← hr,Zmi] at hx
  split at hx
  ·exact hx
  ·cases hx
 ·cases hr
end
section
variable {P:Program} {B:Bs} {N:Nat} {σ:List (Nat × Value)} {Γ:List HP} {Φ:List RF} {a:Act} {w:World} {Q:Exit → Act → World → Prop} {draw:Bool} {ms:List Nat} {ops:Array Oper} {pds:List Pd} {j:Nat} {dst:Option Tmp} {t ty:TypeId} {x:Operand} {pos:String} {af:Array Edge} {g:Option (Nat × Bool)}
theorem Ava.front {α:Type} [Rep α] {b:Option Addr} {n0 cp:Nat} {l r:List α} {n:Int} (hr:cut? l 0 n = some r) (h:Ava Γ Φ w (RO (.slice b n0 cp) l)):Ava Γ Φ w (RO (L b r cp) r):=fun S F hs hf=>(Zjp (h S F hs hf) hr).1
end
section
variable {P:Program} {Q:Exit → Act → World → Prop} {w:World} {N:Nat}
def seqZ (P:Program) (N:Nat) (ops:Array Oper):List (Int × Int × Int) → List Nat → List (Nat × Value) → Option (List (Nat × Value) × List (Value × Value))
  | _,[],σ=>some (σ,[])
  | zs, i :: is, σ =>
    match ops[i]? with
    | some o =>
      (match o.guard, o.dst with
       | none, some d =>
         if decide (d < N) then
           (match o.op with
            | .binOp .shl _ x y _ =>
              (match zs, opd σ x, opd σ y with
               | (m,n,z) :: zs,some u,some v=>(seqZ P N ops zs is ((d,.int .i64 z) :: σ)).map fun l=>(l.1,(u,.int .i64 m) :: (v,.int .i64 n) :: l.2)
               | _,_,_=>none)
            | _ =>
              (match pe P (opd σ) o.op with
               | some v=>seqZ P N ops zs is ((d,v) :: σ)
               | none=>none))
         else none
       | _,_=>none)
    | none=>none
theorem ZdH {fuel:Nat} {ops:Array Oper} (hns:Region.noSelect ops = true) (hQ:∀ c a d v w,Q (.panic c) (Act.put a (some d) v) w → Q (.panic c) a w) :
  ∀ (is:List Nat) (zs:List (Int × Int × Int)) (e:List (Value × Value)) (L:Array Bool) (σ σ1:List (Nat × Value)) (a:Act),FrS N σ a → takesB ops L is = true → AllP (fun q=>shl? q.1 q.2.1 = some q.2.2) zs → seqZ P N ops zs is σ = some (σ1,e) → e.map (·.1) = e.map (·.2) →
   (∀ a',FrS N σ1 a' → wpAny P .any ops Q fuel (is.foldl (fun L i=>L.setIfInBounds i true) L) a' w) → wpAny P .any ops Q (fuel + is.length) L a w
 | [],zs,e,L,σ,σ1,a,hF,_,_,hq,_,h=>by
  simp only [seqZ,Option.some.injEq,Prod.mk.injEq] at hq
  obtain ⟨rfl,_⟩:=hq
  exact h a hF
 | i :: is,zs,e,L,σ,σ1,a,hF,ht,hz,hq,he,h=>by
  simp only [takesB,Zl6] at ht
  obtain ⟨⟨h1,h2⟩,h3⟩:=ht
  unfold seqZ at hq
  split at hq
  ·rename_i o ho
   split at hq
   ·rename_i d hg hd
    split at hq
    ·rename_i hdN
     have hdN:=of_decide_eq_true hdN
     have go:∀ (v:Value) (zs':List (Int × Int × Int)) (e':List (Value × Value)),(∀ w,(execOp a.eval o).run P w = .ok (.value v) w) → AllP (fun q=>shl? q.1 q.2.1 = some q.2.2) zs' → seqZ P N ops zs' is ((d,v) :: σ) = some (σ1,e') → e'.map (·.1) = e'.map (·.2) →
       wpAny P .any ops Q (fuel + (i :: is).length) L a w:=by
      intro v zs' e' hrun hz' hq' he'
      have hw:Region.wanted o (yielded ops a.tmps) = true:=by simp [Region.wanted,hg]
      have hy:Yields P ops o v a:=.inl ⟨hw,hrun⟩
      refine wpAny_take (fuel:=fuel + is.length) ho hns h1 h2 (fun c a w=>by rw [hd]; exact hQ c a d v w) hy ?_
      rw [hd]
      exact ZdH hns hQ is zs' e' _ _ σ1 _ (hF.put hdN v) h3 hz' hq' he' h
     split at hq
     ·rename_i t x y yt hop
      split at hq
      ·rename_i m n z zs' u v hx hy
       cases hq2:seqZ P N ops zs' is ((d,.int .i64 z) :: σ) with
       | none=>rw [hq2] at hq; cases hq
       | some e'=>
        rw [hq2] at hq
        simp only [ZlI,Option.some.injEq,Prod.mk.injEq] at hq
        obtain ⟨g1,hq⟩:=hq
        subst hq
        simp only [ZlA,List.cons.injEq] at he
        obtain ⟨rfl,rfl,he⟩:=he
        obtain ⟨hz1,hz2⟩:=hz
        refine go _ zs' e'.2 (fun w=>?_) hz2 (by rw [hq2,← g1]) he
        have:=Zfu (P:=P) (kd:=.i64) hz1 t w
        simp only [execOp,hop,Zg hF hx,Zg hF hy]
        simp [eqGuard,this]
      ·cases hq
     ·split at hq
      ·rename_i v hv
       exact go v zs e (fun w=>ZcN (P:=P) (ρ':=a.eval) (fun x u hx=>Zg hF hx) hv w) hz hq he
      ·cases hq
    ·cases hq
   ·cases hq
  ·cases hq
variable {B:Bs} {σ:List (Nat × Value)} {Γ:List HP} {Φ:List RF} {a:Act}
theorem AtZ {ops:Array Oper} {L:Array Bool} (fuel:Nat) (is:List Nat) (zs:List (Int × Int × Int)) (hz:AllP (fun q=>shl? q.1 q.2.1 = some q.2.2) zs) (σ':List (Nat × Value)) (c:Cx B N σ Γ Φ a w) (h:∀ a',Cx B N σ' Γ Φ a' w → wpAny P .any ops Q fuel (is.foldl (fun L i=>L.setIfInBounds i true) L) a' w) (hns:Region.noSelect ops = true:=by kernel_rfl) (ht:takesB ops L is = true:=by kernel_rfl)
  (hs:(seqZ P N ops zs is σ).map (fun s=>(σ'.map fun p=>s.1.lookup p.1,s.2.map (·.1))) = some (σ'.map fun p=>some p.2,((seqZ P N ops zs is σ).map (fun s=>s.2.map (·.2))).getD []):=by kernel_rfl) (hQ:∀ c a d v w,Q (.panic c) (Act.put a (some d) v) w → Q (.panic c) a w:=by exact fun _ _ _ _ _ h=>h):wpAny P .any ops Q (fuel + is.length) L a w:=by
 cases hq:seqZ P N ops zs is σ with
 | none=>rw [hq] at hs; cases hs
 | some s=>
  rw [hq] at hs
  simp only [ZlI,Zmm,Option.some.injEq,Prod.mk.injEq] at hs
  exact ZdH hns hQ is zs s.2 L σ s.1 a c.fr ht hz hq hs.2 fun a' hF'=>h a' (c.to (hF'.sub σ' hs.1))
end
end Go.GL
end
