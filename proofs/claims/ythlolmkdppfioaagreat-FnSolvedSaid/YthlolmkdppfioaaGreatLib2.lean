/- Texts of this claim put into one: library or plain laws, without the program under test. -/
import Derived.Test.YthlolmkdppfioaaGreatLib1
import Derived.ArgAppend
import Derived.Laws.BytesString
import Derived.Lib.LaidTab
import Derived.Shelf.Strconv.Itoa3
import Derived.Lib.AppendStr
import Derived.Lib.Builder
import Derived.Lib.Split
import Derived.Lib.SplitLaws
import Derived.Lib.SmallJoins
import Derived.KernelRfl
set_option linter.unusedSimpArgs false
set_option linter.unusedVariables false
section
namespace Go.GL
open Go.RowKit
def sufB (ops:Array Oper) (m:Nat):Bool:=
 decide (m ≤ ops.size) && (List.range ops.size).all fun j=>(ops.getD j default).after.toList.all (fun e=>!Region.binds .any e || decide (e.on < j)) && (decide (j < m) || (List.range j).all fun i=>((masksN ops ops.size).getD j 0).testBit i)
section
variable {P:Program} {ops:Array Oper} {Q:Exit → Act → World → Prop}
theorem ZjA {m0:Nat} (hch:sufB ops m0 = true):∀ fuel j (L:Array Bool) (a:Act) (w:World),m0 ≤ j + 1 → L.size = ops.size → (∀ i,L.getD i false = true ↔ i < j) → j ≤ ops.size → ops.size - j ≤ fuel →
  wpList P ops Q (ops.toList.drop j) a w → wpAny P .any ops Q fuel L a w:=by
 unfold sufB at hch
 simp only [ZnP,Zoa,ZnB,Zo6,ZnO] at hch
 obtain ⟨_,hch⟩:=hch
 have hearly:∀ j o,ops[j]? = some o → ∀ e ∈ o.after.toList,Region.binds .any e = true → e.on < j:=fun j o ho e he hb=>by
  have hj:j < ops.size:=(ZnU.1 ho).1
  have h1:=(hch j hj).1 e (by rw [Zn7,ho]; exact he)
  simpa [hb] using h1
 have hready:∀ (L:Array Bool) (i j:Nat),m0 ≤ j + 1 → L.size = ops.size → (∀ i,L.getD i false = true ↔ i < j) → i ∈ Region.ready .any ops L → i = j ∧ i < ops.size:=by
  intro L i j hmj hs hL hi
  unfold Region.ready at hi
  rw [Zoc,Zoa] at hi
  obtain ⟨h1,h2⟩:=hi
  simp only [ZnB,ZoO] at h2
  obtain ⟨h2,h3⟩:=h2
  have hs':i < L.size:=by omega
  have hnl:¬ i < j:=fun h=>by
   have:=(hL i).2 h
   simp [Zn7,hs'] at this
   simp [hs'] at h2
   rw [this] at h2; cases h2
  refine ⟨?_,h1⟩
  rcases Zp1 j i with h | h
  ·exfalso
   have hm:=((hch i h1).2.resolve_left (by omega)) j h
   rw [XP ops ops.size i h1] at hm
   have ho:ops[i]? = some (ops.getD i default):=by simp [Zn7,h1]
   have:=ZaQ L (fun j' o' hj' ho' e he hb=>(hL e.on).2 (Nat.lt_trans (hearly j' o' ho' e he hb) ((hL j').1 hj'))) j i h1 hm (fun e he hb=>by
    rw [ho] at h3
    simp only [ZnM,Zol,Zow] at h3
    have:=h3 e (by simpa using he)
    simpa [hb] using this)
   have:=(hL j).1 this
   omega
  ·omega
 intro fuel
 induction fuel with
 | zero=>
  intro j L a w hmj hs hL hj hf hw
  obtain rfl:j = ops.size:=by omega
  rw [Zpe (by simp)] at hw
  refine ⟨?_,hw⟩
  cases hr:Region.ready .any ops L with
  | nil=>rfl
  | cons i r=>exact absurd (hready L i _ hmj hs hL (by rw [hr]; exact ZnR)) (by omega)
 | succ fuel ih=>
  intro j L a w hmj hs hL hj hf hw
  refine ⟨fun hr=>?_,fun i hi=>?_⟩
  ·rcases Zp1 j ops.size with h | h
   ·exfalso
    have hmem:j ∈ Region.ready .any ops L:=by
     unfold Region.ready
     rw [Zoc]
     refine ⟨Zoa.2 h,?_⟩
     have ho:ops[j]? = some ops[j]:=by simp [h]
     have h2:((ops[j]).after.all fun e=>!Region.binds .any e || L.getD e.on false) = true:=by
      rw [Zow]
      intro e he
      cases hb:Region.binds .any e with
      | false=>rfl
      | true=>simp [(hL e.on).2 (hearly j _ ho e (by simpa using he) hb)]
     rw [ho]
     simp only [ZnM,Zol,h2,ZpJ,ZoO]
     have hs':j < L.size:=by omega
     cases hl:L.getD j false with
     | true=>exact absurd ((hL j).1 hl) (by omega)
     | false=>simpa [Zn7,hs'] using hl
    rw [hr] at hmem; cases hmem
   ·rw [Zpe (by simp; omega)] at hw
    exact hw
  ·obtain ⟨rfl, hlt⟩ := hready L i j hmj hs hL hi
   have ho:ops[i]? = some ops[i]:=by simp [hlt]
   rw [Zoj (by simpa using hlt)] at hw
   have ho':ops.toList[i]'(by simpa using hlt) = ops[i]:=by simp
   rw [ho'] at hw
   unfold wpOp
   rw [ho]
   have step:∀ a w,wpList P ops Q (ops.toList.drop (i + 1)) a w → wpAny P .any ops Q fuel (L.setIfInBounds i true) a w:=fun a w h=>by
    refine ih (i + 1) _ a w (by omega) (by simpa using hs) (fun m=>?_) (by omega) (by omega) h
    by_cases e:m = i
    ·subst e
     have:m < L.size:=by omega
     simp [Zn7,this]
    ·have h1:(L.setIfInBounds i true).getD m false = L.getD m false:=by
      simp [Zn7,Ne.symm e]
     rw [h1,hL m]; omega
   unfold wpList at hw
   simp only
   split at hw
   ·rename_i hwant
    rw [ZnC hwant]
    rcases hw with hw | hw
    ·exact .inl (Oper.wp_mono step hw)
    ·exact .inr hw
   ·rename_i hwant
    rw [ZnA hwant]
    exact step _ _ hw
end
def RA (P:Program) (ops:Array Oper) (Q:Exit → Act → World → Prop) (a:Act) (w:World):Prop:=
 wpAny P .any ops Q ops.size (Array.replicate ops.size false) a { w with drawn:=w.drawn + 1 }
theorem Yj {P:Program} {ops:Array Oper} {Q:Exit → Act → World → Prop} {a:Act} {w:World} {id:Nat} (hmix:P.follows .mixedOrders = true) (h:RA P ops Q a w):(Code.region id ops true).wp P Q a w:=wp_region_any hmix h
def hoist (f:Nat) (ops:Array Oper):Array Oper:=(ops.toList.mapIdx fun i o=>if f < i then { o with after:=o.after.push ⟨f,.data⟩ } else o).toArray
def hoistB (f:Nat) (ops:Array Oper):Bool:=
 Region.noSelect ops && Region.free .any ops (Array.replicate ops.size false) f &&
 match ops[f]? with
 | some ⟨some _,.move _,_,_,af,none⟩=>af.all fun e=>!Region.binds .any e
 | _=>false
section
variable {P:Program} {ops:Array Oper} {Q:Exit → Act → World → Prop} {f:Nat}
theorem Za8 (i:Nat):(hoist f ops)[i]? = ops[i]?.map fun o=>if f < i then { o with after:=o.after.push ⟨f,.data⟩ } else o:=by
 unfold hoist
 simp
theorem Zc3:(hoist f ops).size = ops.size:=by unfold hoist; simp
theorem ZjF (g:Nat):((hoist f ops)[g]?).bind (·.dst) = (ops[g]?).bind (·.dst):=by
 rw [Za8]
 cases ops[g]? with
 | none=>rfl
 | some o=>simp only [ZnM,Zn4]; split <;> rfl
theorem ZeO (tmps:Array Value):yielded (hoist f ops) tmps = yielded ops tmps:=by
 funext g
 unfold yielded
 rw [ZjF]
theorem Zd8 {L:Array Bool} (h:L.getD f false = true):Region.ready .any (hoist f ops) L = Region.ready .any ops L:=by
 unfold Region.ready
 rw [Zc3]
 refine List.filter_congr fun i hi=>?_
 congr 1
 rw [Za8]
 cases ops[i]? with
 | none=>rfl
 | some o=>
  simp only [ZnM]
  split
  ·simp only [Zol,Array.all_push,h,Bool.or_true,ZpJ]
  ·rfl
theorem Zh3 {i:Nat} {K:Act → World → Prop} {a:Act} {w:World} (h:wpOp P (hoist f ops) Q i K a w):wpOp P ops Q i K a w:=by
 unfold wpOp at *
 rw [Za8,ZeO] at h
 cases ho:ops[i]? with
 | none=>rw [ho] at h; exact h
 | some o=>
  rw [ho] at h
  simp only [ZnM] at h ⊢
  split at h <;> exact h
theorem ZaU:∀ (fuel:Nat) (L:Array Bool) (a:Act) (w:World),L.getD f false = true → wpAny P .any (hoist f ops) Q fuel L a w → wpAny P .any ops Q fuel L a w
 | 0,L,a,w,hf,h=>by
  unfold wpAny at *
  rw [Zd8 hf] at h
  exact h
 | fuel + 1,L,a,w,hf,h=>by
  unfold wpAny at *
  rw [Zd8 hf] at h
  refine ⟨h.1,fun i hi=>wpOp_mono (fun a' w' h'=>ZaU fuel _ a' w' (getD_set_true hf) h') (Zh3 (h.2 i hi))⟩
theorem ZkN (f:Nat) {a:Act} {w:World} (hb:hoistB f ops = true) (hQ:∀ c a d v w,Q (.panic c) (Act.put a (some d) v) w → Q (.panic c) a w) (h:RA P (hoist f ops) Q a w):RA P ops Q a w:=by
 unfold hoistB at hb
 simp only [ZnB] at hb
 obtain ⟨⟨h1,h2⟩,h3⟩:=hb
 split at h3
 ·rename_i d x ty pos af ho
  have hlt:f < ops.size:=(ZnU.1 ho).1
  obtain ⟨n,hn⟩ : ∃ n,ops.size = n + 1:=⟨ops.size - 1,by omega⟩
  have hrd:f ∈ Region.ready .any ops (Array.replicate ops.size false):=by
   rw [mem_ready]
   refine ⟨by simp [Zn7,hlt],_,ho,fun e he hbnd=>?_⟩
   rw [Zow] at h3
   have:=h3 e he
   rw [hbnd] at this; cases this
  have hrd':f ∈ Region.ready .any (hoist f ops) (Array.replicate ops.size false):=by
   rw [mem_ready]
   refine ⟨by simp [Zn7,hlt],⟨some d,.move x,ty,pos,af,none⟩,by rw [Za8,ho]; simp,fun e he hbnd=>?_⟩
   rw [Zow] at h3
   have:=h3 e he
   rw [hbnd] at this; cases this
  have hy:Yields P ops ⟨some d,.move x,ty,pos,af,none⟩ (a.eval x) a:=.inl ⟨rfl,fun w=>by simp [execOp]⟩
  unfold RA at *
  rw [Zc3,hn] at h
  rw [hn] at hrd hrd' h2
  have h4:=h.2 f hrd'
  rw [hn]
  refine wpAny_take ho h1 h2 (by simpa using hrd) (fun c a w=>hQ c a d _ w) hy ?_
  refine ZaU (f:=f) n _ _ _ (by simp [Zn7,show f < n + 1 by omega]) ?_
  unfold wpOp at h4
  rw [Za8,ho] at h4
  simp only [ZnM,Zpo,ZnI] at h4
  rw [ZnC (show Region.wanted (⟨some d,.move x,ty,pos,af,none⟩ : Oper) _ = true from rfl)] at h4
  rcases h4 with h4 | h4
  ·unfold Oper.wp at h4
   simpa [execOp,Oper.upon] using h4
  ·have := h4.1
   unfold Oper.asks at this
   have h5:noRoomEvent ∈ (#[]:Array _):=this.1
   simp at h5
 ·cases h3
end
section
variable {P:Program} {ops:Array Oper} {Q:Exit → Act → World → Prop} {a:Act} {w w0:World} {S S0 F F0:Nat → Prop} {N:Nat} {σ:List (Nat × Value)} {k d:Nat} {t ty:TypeId} {x y:Operand} {pos:String} {af:Array Edge}
  {L:List HP}
theorem Znk {v:Value} (hs:Sep L w S) (hM:Mem w0 S0 F0 w S F) (cs:List Value) (ho:ops[k]? = some ⟨some d,.box t x,ty,pos,af,none⟩) (hd:Nat.blt d N = true) (hF:FrS N σ a) (hx:opd σ x = some v) (hcs:v.cells.toList = cs)
  (h:∀ b w' S' fr,Sep (BX b t cs :: L) w' S' → Stp w S w' S' → FrS N ((d,.pointer (some ⟨b,0,none⟩)) :: σ) fr → wpFrom P ops Q (k + 1) fr w'):wpFrom P ops Q k a w:=
 Znw cs ho hd hF hx hcs fun b w' fr hlo hb hc hF'=>by
  obtain ⟨S',hp,hs'⟩:=hs.new hM hc (P:=BX b t cs) ⟨hb,hlo⟩
  exact h b w' S' fr hs' hp hF'
theorem ZlV {z:Value} (hs:Sep L w S) (hM:Mem w0 S0 F0 w S F) (cs:List Value) (ho:ops[k]? = some ⟨some d,.alloc t,ty,pos,af,none⟩) (hd:Nat.blt d N = true) (hF:FrS N σ a) (hz:(P.info? t).map (·.zero) = some (some z)) (hcs:z.cells.toList = cs)
  (h:∀ b w' S' fr,Sep (BX b t cs :: L) w' S' → Stp w S w' S' → FrS N ((d,.pointer (some ⟨b,0,none⟩)) :: σ) fr → wpFrom P ops Q (k + 1) fr w'):wpFrom P ops Q k a w:=
 Zmu cs ho hd hF hz hcs fun b w' fr hlo hb hc hF'=>by
  obtain ⟨S',hp,hs'⟩:=hs.new hM hc (P:=BX b t cs) ⟨hb,hlo⟩
  exact h b w' S' fr hs' hp hF'
theorem Zha {b n:Nat} {bt:TypeId} {cs:List Value} {u:Value} (i:Nat) (hs:Sep L w S) (hM:Mem w0 S0 F0 w S F) (hi:L[i]? = some (BX b bt cs)) (cs':List Value) (ho:ops[k]? = some ⟨none,.store t x y,ty,pos,af,none⟩) (hF:FrS N σ a)
  (hx:opd σ x = some (.pointer (some ⟨b,n,none⟩))) (hy:opd σ y = some u) (ht:(P.info? t).map (·.size) = some 1) (hn:Nat.blt n cs.length = true) (h1:u.oneCell' = true) (hcs:cs.set n u = cs')
  (h:∀ w' S',Sep (L.set i (BX b bt cs')) w' S' → Stp w S w' S' → FrS N σ a → wpFrom P ops Q (k + 1) a w'):wpFrom P ops Q k a w:=by
 obtain ⟨A,hok,hup⟩:=hs.upd i hi hM
 refine ZhL cs' ho hF hx hy ht hok.1 hn h1 hcs fun w' hb hc hF'=>?_
 obtain ⟨S',hp,hs'⟩:=hup (P':=BX b bt cs') (hc.mono fun k hk=>by subst hk; exact hok.2) ⟨hb,.inl hok.2⟩
 exact h w' S' hs' hp hF'
theorem Zgc {b:Nat} {bt:TypeId} {cs:List Value} {u:Value} (i:Nat) (hs:Sep L w S) (hM:Mem w0 S0 F0 w S F) (hi:L[i]? = some (BX b bt cs)) (cs':List Value) (ho:ops[k]? = some ⟨none,.store t x y,ty,pos,af,none⟩) (hF:FrS N σ a)
  (hx:opd σ x = some (.pointer (some ⟨b,0,none⟩))) (hy:opd σ y = some u) (ht:(P.info? t).map (·.size) = some cs'.length) (hl:cs'.length = cs.length) (huc:u.cells.toList = cs') (h1:(cs'.all fun z=>z.oneCell') = true)
  (h:∀ w' S',Sep (L.set i (BX b bt cs')) w' S' → Stp w S w' S' → FrS N σ a → wpFrom P ops Q (k + 1) a w'):wpFrom P ops Q k a w:=by
 obtain ⟨A,hok,hup⟩:=hs.upd i hi hM
 refine ZgE cs' ho hF hx hy ht hok.1 hl huc h1 fun w' hb hc hF'=>?_
 obtain ⟨S',hp,hs'⟩:=hup (P':=BX b bt cs') (hc.mono fun k hk=>by subst hk; exact hok.2) ⟨hb,.inl hok.2⟩
 exact h w' S' hs' hp hF'
variable {α:Type} [Rep α] {E:TypeId} {v u:Value} {l m:List α}
theorem ZmE {y':Operand} {n:Int} {zc:α} (hs:Sep L w S) (hM:Mem w0 S0 F0 w S F) (ht:P.underlying t = some (.slice E)) (hE:ElT P E α) (hz:∀ i,P.info? E = some i → ∀ z,i.zero = some z → Rep.ok w (fun _=>False) z.cells.toList zc)
  (hop:ops[k]? = some ⟨some d,.makeSlice t x y',ty,pos,af,none⟩) (hd:Nat.blt d N = true) (hF:FrS N σ a) (hx:opd σ x = some (.int .i64 n)) (hy:opd σ y' = some (.int .i64 n)) {r:List α} (hr:mk? n zc = some r)
  (h:∀ a' c' w' S' fr,Sep (SL E (.slice a' (List.length r) c') r :: L) w' S' → Stp w S w' S' → FrS N ((d,.slice a' (List.length r) c') :: σ) fr → wpFrom P ops Q (k + 1) fr w'):wpFrom P ops Q k a w:=
 ZmI (G:=fun k=>w.heap.size ≤ k) (FF:=Non) ht hE hz hop hd hF hx hy hr (fun _ h=>h) fun g a' c' w' fr _ ho hc hF'=>by
  obtain ⟨S',hp,hs'⟩:=hs.new hM hc (P:=SL E (.slice a' (List.length r) c') r) (.inl ⟨_,ho⟩)
  exact h a' c' w' S' fr hs' hp hF'
theorem Zno {n:Nat} {parts:Array (Nat × Operand)} (hs:Sep L w S) (hM:Mem w0 S0 F0 w S F) (cells:List Value) (css:List (List Value)) (l:List α) (hop:ops[k]? = some ⟨some d,.buildSlice t n parts,ty,pos,af,none⟩) (hd:Nat.blt d N = true) (hF:FrS N σ a)
  (vals:List Value) (hv:parts.toList.map (fun p=>opd σ p.2) = vals.map some)
  (hrun:∀ w,(Instr.buildSlice t n ((parts.toList.map (·.1)).zip vals).toArray).run P w = .ok (.slice (some ⟨w.heap.size,0,none⟩) n n) (w.alloc (.cells cells.toArray E)))
  (hcss:Css w Non css l) (hfl:css.flatten = cells) (hln:l.length = n) (hmax:Nat.ble l.length room = true)
  (h:∀ a' c' w' S' fr,Sep (SL E (.slice a' (List.length l) c') l :: L) w' S' → Stp w S w' S' → FrS N ((d,.slice a' (List.length l) c') :: σ) fr → wpFrom P ops Q (k + 1) fr w'):wpFrom P ops Q k a w:=
 Zn1 (E:=E) (G:=fun k=>w.heap.size ≤ k) (FF:=Non) (F:=Non) cells css l hop hd hF vals hv hrun hcss hfl hln hmax (fun _ h=>h) (fun _ _ h=>h) fun g a' c' w' fr _ ho hc hF'=>by
  obtain ⟨S',hp,hs'⟩:=hs.new hM hc (P:=SL E (.slice a' (List.length l) c') l) (.inl ⟨_,ho⟩)
  exact h a' c' w' S' fr hs' hp hF'
end
section
variable {P:Program} {ops:Array Oper} {Q:Exit → Act → World → Prop} {a:Act} {w w0:World} {S S0 F F0:Nat → Prop} {N:Nat} {σ:List (Nat × Value)} {k d:Nat} {t ty:TypeId} {x y:Operand} {pos:String} {af:Array Edge}
  {L:List HP} {α:Type} [Flat α] {E:TypeId} {v u:Value} {l m:List α}
theorem Znx {t' ty':TypeId} {idx z:Operand} {pos':String} {af':Array Edge} {kd:IntKind} {n:Int} {q:α} (i:Nat) (hs:Sep L w S) (hM:Mem w0 S0 F0 w S F) (hL:L[i]? = some (SL E v l)) (ht:P.underlying t = some (.slice E)) (hE:Ty P E α)
  (hop:ops[k]? = some ⟨some d,.indexAddr t x idx,ty,pos,af,none⟩) (hop':ops[k + 1]? = some ⟨none,.store t' (.tmp d) z,ty',pos',af',none⟩) (hte:t' = E) (hd:Nat.blt d N = true) (hF:FrS N σ a)
  (hx:opd σ x = some v) (hi:opd σ idx = some (.int kd n)) (hz:z ≠ .tmp d) (hzu:opd σ z = some u) (hu:Rep.val α (Flat.enc q) = u) {r:List α} (hr:set? l n q = some r)
  (h:∀ w' S' fr p,Sep (L.set i (SL E v r)) w' S' → Stp w S w' S' → FrS N ((d,p) :: σ) fr → wpFrom P ops Q (k + 2) fr w'):wpFrom P ops Q k a w:=by
 obtain ⟨A,hok,hup⟩:=hs.upd i hL hM
 rcases hok with ⟨go,ho⟩ | ⟨rfl,_,_⟩
 ·refine ZjE (fun _ => False) ho ht hE hop hop' hte hd hF hx hi hz hzu (Fr := Non) (q := q) ⟨_, Flat.iff.2 rfl, hu.symm⟩ Zb9 (fun _ _ h => h.elim) hr fun a' c' w' fr ho' he hc ⟨p, hF'⟩ => ?_
  obtain ⟨S',hp,hs'⟩:=hup (P':=SL E v r) (hc.mono fun k hk=>ho.inG hk) (.inl ⟨go,by rw [he]; exact ho'.regard fun k _ hk=>.inl hk⟩)
  exact h w' S' fr p hs' hp hF'
 ·unfold set? at hr
  simp at hr
theorem Zbg {t ty:TypeId} {v:Option Addr} (ht:P.underlying t = some (.slice E)) (hE:ElT P E α) {Fr:Nat → Prop} {u:Value} {m:List α} (hu:RV w Fr u m) (hroom:m.length ≤ room) :
  ∃ v' w',(Builtin.append_ #[t,t] ty #[.slice v 0 0,u]).run P w = .ok v' w' ∧ (SL E v' m).ok w' (fun k=>w.heap.size ≤ k) ∧ Chg Non w w':=by
 obtain ⟨i,z,hi,hz,hsz,hzs,hby⟩:=hE.out
 have hnil:OwnS w E none (fun k=>w.heap.size ≤ k) Non (.slice none 0 0) ([]:List α):=OwnS.nil
 obtain ⟨v',w',go',hrun,h1,h2,h3⟩:=hnil.append_run (P:=P) (ty:=ty) ht hE hu (Fu:=Non) Zb9 (fun _ _ h=>h.elim) (fun _ h=>h) (by simpa using hroom)
 have hc:Chg Non w w':=h2.mono fun k hk=>by cases hk
 cases v with
 | none=>exact ⟨v',w',hrun,.inl ⟨go',by simpa using h1⟩,hc⟩
 | some b=>
  obtain ⟨ad,cap,rfl,hcap,hmax,hcells⟩:=hu.slice
  by_cases hm:m = []
  ·subst hm
   refine ⟨.slice (some b) 0 0,w,?_,.inr ⟨rfl,_,rfl⟩,Chg.refl _ _⟩
   cases ad with
   | none=>simp [Builtin.append_,run_underlying ht,sizeOf,typeInfo,hi,Builtin.lenOf,Builtin.firstCells,storeCells]
   | some ad=>simp [Builtin.append_,run_underlying ht,sizeOf,typeInfo,hi,Builtin.lenOf,Builtin.firstCells,storeCells,loadCells,loadCellsFrom]
  ·obtain ⟨ad, rfl, _, he⟩ := hcells hm
   obtain ⟨css,g1,g2⟩:=Za4 he
   have hpos:0 < m.length:=by
    cases m with
    | nil=>exact absurd rfl hm
    | cons=>simp
   unfold room at hroom
   have hb1:m.length * i.bytes ≤ 4294967296 * 32768:=Zrd hroom hby
   have hl:css.flatten.length = m.length * i.size:=by rw [hsz]; exact g1.flat_len
   have hn:∀ j x,css.flatten[j]? = some x → w.cell? (ad.add j) = some x:=fun j x hx=>by simpa using g2 j x hx
   have e1:=run_append_nil (P:=P) w t ty E i z ht hi hz ad m.length cap css.flatten hl hn hpos (by omega) (by omega)
   have e2:=run_append_grow (P:=P) w t ty E i z ht hi hz b 0 0 [] (by simp) (by simp) ad m.length cap css.flatten hl hn (by omega) (by omega) (by
    rw [Zpc,nextslicecap_zero hpos]; omega)
   rw [e1] at hrun
   simp at e2
   exact ⟨v',w',e2.trans hrun,.inl ⟨go',by simpa using h1⟩,hc⟩
theorem ZjX {y':Operand} {t':TypeId} {Fr:Nat → Prop} (i:Nat) (hs:Sep L w S) (hM:Mem w0 S0 F0 w S F) (hL:L[i]? = some (SL E v l)) (ht:P.underlying t = some (.slice E)) (hE:ElT P E α)
  (hop:ops[k]? = some ⟨some d,.call ⟨.builtin .append,#[x,y'],#[t,t']⟩,ty,pos,af,none⟩) (htt:t' = t) (hd:Nat.blt d N = true) (hF:FrS N σ a) (hx:opd σ x = some v) (hy:opd σ y' = some u) (hu:RV w Fr u m)
  {r:List α} (hr:app? l m = some r)
  (h:∀ a' c' w' S' fr,Sep (L.set i (SL E (.slice a' (List.length r) c') r)) w' S' → Stp w S w' S' → FrS N ((d,.slice a' (List.length r) c') :: σ) fr → wpFrom P ops Q (k + 1) fr w'):wpFrom P ops Q k a w:=by
 obtain ⟨A,hok,hup⟩:=hs.upd i hL hM
 rcases hok with ⟨go,ho⟩ | ⟨rfl,b,rfl⟩
 ·have ho2 : OwnS w E go (fun k => A k ∨ w.heap.size ≤ k) Non v l := ho.regard fun k _ hk => .inl hk
  refine ZkJ (fun _=>False) ho2 ht hE hop htt hd hF hx hy hu Zb9 (fun _ _ h=>h.elim) (fun k hk=>.inr hk) hr fun go' a' c' w' fr ho' hc _ hF'=>?_
  obtain ⟨S',hp,hs'⟩:=hup (P':=SL E (.slice a' (List.length r) c') r) (hc.mono fun k hk=>ho.inG hk) (.inl ⟨go',ho'⟩)
  exact h a' c' w' S' fr hs' hp hF'
 ·subst htt
  unfold app? at hr
  split at hr
  ·rename_i hroom
   simp only [Zq1,Option.some.injEq] at hr; subst hr
   obtain ⟨v',w',hrun,hok',hc⟩:=Zbg (P:=P) (ty:=ty) (v:=b) ht hE hu (by simpa using hroom)
   have hsl:∃ a' c',v' = .slice a' (List.length m) c':=by
    rcases hok' with ⟨go,ho⟩ | ⟨rfl,a',rfl⟩
    ·exact ho.slice
    ·exact ⟨a',0,rfl⟩
   obtain ⟨a',c',rfl⟩:=hsl
   refine Zz hF hop rfl rfl (Zon.mp hd) (R:=fun z w1=>z = .slice a' (List.length m) c' ∧ w1 = w') (Zh ?_ ⟨rfl,rfl⟩) fun z w1 fr hz hF'=>?_
   ·simp [execOp,resolve,invoke,builtin,Zd hF hx,Zd hF hy,hrun]
   ·obtain ⟨rfl, rfl⟩ := hz
    obtain ⟨S',hp,hs'⟩:=hup (P':=SL E (.slice a' (List.length m) c') m) hc.of (HP.mono _ hok' fun k _ hk=>.inr hk)
    exact h a' c' _ S' fr hs' hp hF'
  ·cases hr
theorem OwnS.front {w:World} {go:Option Nat} {G:Nat → Prop} {a0:Option Addr} {c n:Nat} (h:OwnS w E go G Non (.slice a0 l.length c) l) (hn:n ≤ l.length):OwnS w E go G Non (.slice a0 n c) (l.take n):=by
 obtain ⟨F,css,h1,h2,h3,h4,h5⟩:=h
 have hlen:(css.take n).flatten.length = n * Rep.sz α:=by
  have:Css w F (css.take n) (l.take n):=⟨by simp [h1.1],fun i cs x hi hx=>by
   rw [Zok] at hi hx
   split at hi
   ·rename_i hlt; rw [ZnC hlt] at hx; exact h1.2 i cs x hi hx
   ·cases hi⟩
  rw [this.flat_len]; simp [Zop hn]
 have hpre:(css.take n).flatten = css.flatten.take (n * Rep.sz α):=by
  have e:css.flatten = (css.take n).flatten ++ (css.drop n).flatten:=by rw [← ZpC,Zo0]
  rw [e,← hlen,List.take_left]
 refine ⟨F,css.take n,⟨by simp [h1.1],fun i cs x hi hx=>?_⟩,⟨by simpa [Zop hn] using hlen,?_⟩,?_,h4,h5⟩
 ·rw [Zok] at hi hx
  split at hi
  ·rename_i hlt; rw [ZnC hlt] at hx; exact h1.2 i cs x hi hx
  ·cases hi
 ·rcases h2.2 with ⟨hv, hz⟩ | ⟨g, cap, cur, hv, hb, hg, hnc, hcm, hcs, htake⟩
  ·left
   simp only [Value.slice.injEq] at hv
   obtain ⟨rfl,h6,rfl⟩:=hv
   have:n = 0:=by omega
   subst this
   exact ⟨rfl,by simp⟩
  ·right
   simp only [Value.slice.injEq] at hv
   obtain ⟨rfl,_,rfl⟩:=hv
   refine ⟨g,c,cur,by simp [Zop hn],hb,hg,by simp; omega,hcm,hcs,?_⟩
   rw [hpre,← htake,List.take_take]
   congr 1
   simp only [ZnF]
   rw [Zop hn]
   exact (Zop (Zpa _ hn)).symm
 ·rw [← h3]
  cases a0 <;> rfl
theorem ZlM {lo:Option Operand} {hi:Operand} {b:Option Addr} {c:Nat} {kh:IntKind} {n:Int} (i:Nat) (hs:Sep L w S) (hM:Mem w0 S0 F0 w S F) {len0:Nat} (hL:L[i]? = some (SL E (.slice b len0 c) l)) (ht:P.underlying t = some (.slice E)) (hE:Ty P E α)
  (hop:ops[k]? = some ⟨some d,.slice t x lo (some hi) none,ty,pos,af,none⟩) (hd:Nat.blt d N = true) (hF:FrS N σ a) (hx:opd σ x = some (.slice b len0 c))
  (hlo:lo = none ∨ ∃ o kl,lo = some o ∧ opd σ o = some (.int kl 0)) (hhi:opd σ hi = some (.int kh n)) {r:List α} (hr:cut? l 0 n = some r)
  (h:∀ c' w' S' fr,Sep (L.set i (SL E (.slice b (List.length r) c') r)) w' S' → Stp w S w' S' → FrS N ((d,.slice b (List.length r) c') :: σ) fr → wpFrom P ops Q (k + 1) fr w'):wpFrom P ops Q k a w:=by
 unfold cut? at hr
 split at hr
 ·rename_i hn
  simp only [Zre,Zpu,Option.some.injEq] at hr
  obtain ⟨_,hn1,hn2⟩:=hn
  have hlen:r.length = n.toNat:=by rw [← hr,ZnF]; omega
  obtain ⟨A,hok,hup⟩:=hs.upd i hL hM
  have hcap:n ≤ (c:Int) ∧ len0 = l.length ∧ (SL E (.slice b (List.length r) c) r).ok w (fun k=>A k ∨ w.heap.size ≤ k):=by
   rcases hok with ⟨go,ho⟩ | ⟨rfl,b',hb'⟩
   ·obtain ⟨a', c', hv⟩ := ho.slice
    simp only [Value.slice.injEq] at hv
    obtain ⟨rfl,rfl,rfl⟩:=hv
    refine ⟨?_,rfl,.inl ⟨go,?_⟩⟩
    ·obtain ⟨b2, c2, hv, hc2, _⟩ := ho.rv.slice
     simp only [Value.slice.injEq] at hv
     omega
    ·rw [hlen, ← hr]
     exact (ho.front (by omega)).regard fun k _ hk=>.inl hk
   ·simp only [Value.slice.injEq] at hb'
    obtain ⟨rfl,rfl,rfl⟩:=hb'
    have h0:r = []:=by rw [← hr]; simp
    refine ⟨?_,rfl,.inr ⟨h0,b,by rw [h0]; rfl⟩⟩
    simp at hn2; omega
  obtain ⟨hc,rfl,hok'⟩:=hcap
  refine Zz hF hop rfl rfl (Zon.mp hd) (R:=fun z w1=>z = .slice b n.toNat c ∧ w1 = w) (Zh ?_ ⟨rfl,rfl⟩) fun z w1 fr hz hF'=>?_
  ·have hadd : b.map (fun x => x.add 0) = b := by cases b <;> simp [Addr.add]
   rcases hlo with rfl | ⟨o,kl,rfl,hlo⟩
   ·simp [execOp,Instr.sliceAt,Instr.slice,Instr.sliceBounds,Instr.sliceBound,asIntOf,Zd hF hx,Zd hF hhi,run_underlying ht,hE.sizeOf,hn1,hc,hadd]
   ·        simp [execOp,Instr.sliceAt,Instr.slice,Instr.sliceBounds,Instr.sliceBound,asIntOf,Zd hF hx,Zd hF hhi,Zd hF hlo,run_underlying ht,hE.sizeOf,hn1,hc,hadd]
  ·obtain ⟨rfl, rfl⟩ := hz
   obtain ⟨S',hp,hs'⟩:=hup (P':=SL E (.slice b (List.length r) c) r) (Chg.refl _ _) hok'
   exact h c _ S' fr hs' hp (by rw [hlen]; exact hF')
 ·cases hr
end
section
variable {P:Program} {ms:List Nat} {ops:Array Oper} {T:(Nat → Nat) → Nat → Value → World → Prop} {S:Nat → Prop} {a0:Act} {w0:World} {Q:Exit → Act → World → Prop}
def JO (ms:List Nat) (ops:Array Oper) (T:(Nat → Nat) → Nat → Value → World → Prop) (S:Nat → Prop) (a0:Act) (w0:World) (L:Array Bool) (a:Act) (w:World):Prop:=
 ∃ ow,J true ms ops [] (T ow) (fun _ _=>True) S a0 w0 L a w
theorem JO.size {L:Array Bool} {a:Act} {w:World} (h:JO ms ops T S a0 w0 L a w):L.size = ops.size:=h.elim fun _ h=>h.size
def PhO (ow:Nat → Nat) (j:Nat):Nat → World → Prop:=fun _ w=>∀ k,w.heap.size ≤ k → ow k = j
theorem JO.step_wp {N:Nat} (hst:stat true ms ops [] N = true) (hN:a0.tmps.size = N) (hT:∀ ow i v w w',T ow i v w → Chg S w w' → T ow i v w') (hO:∀ ow ow' i v w,(∀ k,k < w.heap.size → ow k = ow' k) → T ow i v w → T ow' i v w) {L:Array Bool} {a:Act} {w:World}
  (hJ:JO ms ops T S a0 w0 L a w) {j:Nat} (hj:j < ops.size) (hl:L.getD j false = false) (hb:∀ i,bef true ms j i = true → L.getD i false = true)
  (ht:∀ ow,Tri P true ms ops [] (T ow) (PhO ow j) S a0 w0 Q j):∃ o,ops[j]? = some o ∧ if Region.wanted o (yielded ops a.tmps) then o.wp P a w (JO ms ops T S a0 w0 (L.setIfInBounds j true)) Q else JO ms ops T S a0 w0 (L.setIfInBounds j true) (a.put o.dst undef) w:=by
 obtain ⟨ow,hJ⟩:=hJ
 let ow':Nat → Nat:=fun k=>if k < w.heap.size then ow k else j
 have hs:∀ k,k < w.heap.size → ow k = ow' k:=fun k hk=>by simp [ow',hk]
 have hJ':J true ms ops [] (T ow') (PhO ow' j) S a0 w0 L a w:=⟨hJ.size,hJ.closed,hJ.defers,hJ.tsize,hJ.chg,fun k hk=>by simp [ow',Nat.not_lt.2 hk],fun t=>by
  have:=hJ.cur t
  cases hl:lastL ops L t ops.size with
  | none=>rw [hl] at this; exact this
  | some i=>rw [hl] at this; exact hO _ _ _ _ _ hs this⟩
 obtain ⟨o,ho,h⟩:=hJ'.step_wp hst hN (hT ow') hj hl hb (ht ow')
 have hconv:∀ a w,J true ms ops [] (T ow') (PhO ow' j) S a0 w0 (L.setIfInBounds j true) a w → JO ms ops T S a0 w0 (L.setIfInBounds j true) a w:=fun a w h=>⟨ow',h.size,h.closed,h.defers,h.tsize,h.chg,trivial,h.cur⟩
 refine ⟨o,ho,?_⟩
 split
 ·rename_i hw
  rw [ZnC hw] at h
  exact Oper.wp_mono hconv h
 ·rename_i hw
  rw [ZnA hw] at h
  exact hconv _ _ h
theorem JO.step {N:Nat} (hst:stat true ms ops [] N = true) (hN:a0.tmps.size = N) (hT:∀ ow i v w w',T ow i v w → Chg S w w' → T ow i v w') (hO:∀ ow ow' i v w,(∀ k,k < w.heap.size → ow k = ow' k) → T ow i v w → T ow' i v w) {L:Array Bool} {a:Act} {w:World}
  (hJ:JO ms ops T S a0 w0 L a w) {j:Nat} (hj:j < ops.size) (hl:L.getD j false = false) (hb:∀ i,bef true ms j i = true → L.getD i false = true)
  (ht:∀ ow,Tri P true ms ops [] (T ow) (PhO ow j) S a0 w0 Q j):wpOp P ops Q j (JO ms ops T S a0 w0 (L.setIfInBounds j true)) a w:=by
 obtain ⟨o,ho,h⟩:=hJ.step_wp hst hN hT hO hj hl hb ht
 unfold wpOp
 simp only [ho]
 split
 ·rename_i hw
  rw [ZnC hw] at h
  exact .inl h
 ·rename_i hw
  rw [ZnA hw] at h
  exact h
end
section
variable {P:Program} {ms:List Nat} {ops:Array Oper} {T:(Nat → Nat) → Nat → Value → World → Prop} {S:Nat → Prop} {a0:Act} {w0:World} {Q:Exit → Act → World → Prop} {m:Nat}
theorem Zk2 {L:Array Bool} {n m:Nat} (hs:L.size = n) (hm:m ≤ n) (hL:∀ i,L.getD i false = true ↔ i < m):L.toList.countP (fun b=>!b) = n - m:=by
 have e:L.toList = List.replicate m true ++ List.replicate (n - m) false:=by
  apply Zo8
  intro i
  rw [Zp0,Zos,ZoZ,ZoZ]
  have h1:=hL i
  by_cases hi:i < n
  ·have hi' : i < L.size := by omega
   simp only [Zn7,ZoA hi',Zol] at h1
   rw [Zpk,ZoA hi']
   by_cases him:i < m
   ·rw [ZnC him,ZnC him,h1.2 him]
   ·rw [ZnA him, ZnC (by omega)]
    cases hb:L[i] with
    | false=>rfl
    | true=>exact absurd (h1.1 hb) him
  ·rw [Zpk,Zpd (by omega),ZnA (by omega),ZnA (by omega)]
 rw [e,List.countP_append,List.countP_replicate,List.countP_replicate]
 simp
def EndM (ops:Array Oper) (T:Nat → Value → World → Prop) (a0:Act) (m:Nat) (a:Act) (w:World):Prop:=
 a.defers = a0.defers ∧ a.tmps.size = a0.tmps.size ∧ ∀ t,Know ops T a0 m t (a.eval (.tmp t)) w
theorem ZjI {N:Nat} (hst:stat true ms ops [] N = true) (hsuf:sufB ops m = true) (hN:a0.tmps.size = N) (hT:∀ ow i v w w',T ow i v w → Chg S w w' → T ow i v w') (hO:∀ ow ow' i v w,(∀ k,k < w.heap.size → ow k = ow' k) → T ow i v w → T ow' i v w)
  (ht:∀ ow j,j < m → Tri P true ms ops [] (T ow) (PhO ow j) S a0 w0 Q j) (post:∀ ow a w,EndM ops (T ow) a0 m a w → Chg S w0 w → wpList P ops Q (ops.toList.drop m) a w) :
  ∀ fuel (L:Array Bool) (a:Act) (w:World),Closed ops L → (∀ i,L.getD i false = true → i < m) → (L.toList.countP (fun b=>!b) ≤ fuel) → JO ms ops T S a0 w0 L a w → wpAny P .any ops Q fuel L a w:=by
 have hst0:=hst
 have hsuf0:=hsuf
 unfold sufB at hsuf
 simp only [ZnP,Zoa,ZnB,Zo6,ZnO] at hsuf
 obtain ⟨hmn,hsuf⟩:=hsuf
 unfold stat at hst
 simp only [ZnB,ZnP,ZnO,ZnY,Zo4,ZoN,Zoa] at hst
 obtain ⟨⟨⟨⟨⟨hms,hearly⟩,_⟩,heffs⟩,_⟩,_⟩:=hst
 have hearly':∀ j o,ops[j]? = some o → ∀ e ∈ o.after.toList,Region.binds .any e = true → e.on < j:=fun j o ho e he hb=>by
  have hj:j < ops.size:=(ZnU.1 ho).1
  have h1:=hearly j hj e (by rw [Zn7,ho]; exact he)
  simpa [hb] using h1
 have hready:∀ (L:Array Bool) (i:Nat),L.size = ops.size → i ∈ Region.ready .any ops L → i < ops.size ∧ L.getD i false = false ∧
   ∀ o,ops[i]? = some o → ∀ e ∈ o.after.toList,Region.binds .any e = true → L.getD e.on false = true:=by
  intro L i hs hi
  unfold Region.ready at hi
  rw [Zoc,Zoa] at hi
  obtain ⟨h1,h2⟩:=hi
  simp only [ZnB,ZoO] at h2
  obtain ⟨h2,h3⟩:=h2
  refine ⟨h1,?_,fun o ho e he hb=>?_⟩
  ·have hs' : i < L.size := by omega
   simpa [Zn7,hs'] using h2
  ·rw [ho] at h3
   simp only [ZnM,Zol,Zow] at h3
   have:=h3 e (by simpa using he)
   simpa [hb] using this
 have hswitch:∀ fuel (L:Array Bool) (a:Act) (w:World),(∀ i,L.getD i false = true → i < m) → (∀ i,i < m → L.getD i false = true) → (L.toList.countP (fun b=>!b) ≤ fuel) → JO ms ops T S a0 w0 L a w → wpAny P .any ops Q fuel L a w:=by
  intro fuel L a w h1 h2 h3 hJ
  have hL:∀ i,L.getD i false = true ↔ i < m:=fun i=>⟨h1 i,h2 i⟩
  have hc:=Zk2 hJ.size hmn hL
  refine ZjA hsuf0 fuel m L a w (Nat.le_succ _) hJ.size hL hmn (by omega) (by
   obtain ⟨ow,hJ⟩:=hJ
   refine post ow a w ⟨hJ.defers,hJ.tsize,fun t=>?_⟩ hJ.chg
   have:=hJ.cur t
   rw [ZbP L t m ops.size hmn fun i _ _=>hL i] at this
   exact this)
 intro fuel
 induction fuel with
 | zero=>
  intro L a w _ hsub hcount hJ
  refine hswitch 0 L a w hsub (fun i hi=>?_) hcount hJ
  have h3:L.toList.countP (fun b=>!b) = 0:=by omega
  rw [Zq0] at h3
  have hs':i < L.size:=by rw [hJ.size]; omega
  have hm:L[i] ∈ L.toList:=by simp
  have h4:=h3 _ hm
  simpa [Zn7,hs'] using h4
 | succ fuel ih=>
  intro L a w hcl hsub hcount hJ
  by_cases hall:∀ i,i < m → L.getD i false = true
  ·exact hswitch _ L a w hsub hall hcount hJ
  ·obtain ⟨x, hx⟩ := Classical.not_forall.1 hall
   have hxm:x < m:=by
    by_cases h:x < m
    ·exact h
    ·exact absurd (fun h'=>absurd h' h) hx
   have hxl:L.getD x false = false:=by
    cases h:L.getD x false with
    | false=>rfl
    | true=>exact absurd (fun _=>h) hx
   have hlow:∀ i ∈ Region.ready .any ops L,i < m:=by
    intro i hi
    obtain ⟨h1,h2,h3⟩:=hready L i hJ.size hi
    rcases Zp1 i m with h | h
    ·exact h
    ·exfalso
     have hm:=((hsuf i h1).2.resolve_left (by omega)) x (by omega)
     rw [XP ops ops.size i h1] at hm
     have ho:ops[i]? = some (ops.getD i default):=by simp [Zn7,h1]
     have:=ZaQ L hcl x i h1 hm (h3 _ ho)
     rw [hxl] at this; cases this
   refine ⟨fun hr=>?_,fun i hi=>?_⟩
   ·
    exfalso
    have hleast:∀ n,(∀ i,i < n → i < m → L.getD i false = true) ∨ ∃ i,i < m ∧ L.getD i false = false ∧ ∀ j,j < i → L.getD j false = true:=by
     intro n
     induction n with
     | zero=>exact .inl fun i hi=>absurd hi (Nat.not_lt_zero _)
     | succ n ihn=>
      rcases ihn with h | h
      ·by_cases hn : n < m
       ·cases hl : L.getD n false with
        | true=>
         refine .inl fun i hi him=>?_
         rcases Zp1 i n with h' | h'
         ·exact h i h' him
         ·obtain rfl : i = n := by omega
          exact hl
        | false=>exact .inr ⟨n,hn,hl,fun j hj=>h j hj (by omega)⟩
       ·exact .inl fun i hi him=>h i (by omega) him
      ·exact .inr h
    rcases hleast m with h | ⟨i,him,hil,hij⟩
    ·exact absurd (h x hxm hxm) (by simp [hxl])
    ·have hi : i < ops.size := by omega
     have hmem:i ∈ Region.ready .any ops L:=by
      unfold Region.ready
      rw [Zoc]
      refine ⟨Zoa.2 hi,?_⟩
      have ho:ops[i]? = some ops[i]:=by simp [hi]
      have h2:((ops[i]).after.all fun e=>!Region.binds .any e || L.getD e.on false) = true:=by
       rw [Zow]
       intro e he
       cases hb:Region.binds .any e with
       | false=>rfl
       | true=>simp [hij _ (hearly' i _ ho e (by simpa using he) hb)]
      rw [ho]
      simp only [ZnM,Zol,h2,ZpJ,ZoO]
      have hs':i < L.size:=by rw [hJ.size]; exact hi
      simpa [Zn7,hs'] using hil
     rw [hr] at hmem; cases hmem
   ·obtain ⟨h1, h2, h3⟩ := hready L i hJ.size hi
    have him:=hlow i hi
    have hiL:i < L.size:=by rw [hJ.size]; exact h1
    have ho:ops[i]? = some (ops.getD i default):=by simp [Zn7,h1]
    have hbef:∀ h,bef true ms i h = true → L.getD h false = true:=fun h hb=>by
     unfold bef at hb
     simp only [ZnV] at hb
     rw [hms,XP ops ops.size i h1] at hb
     exact ZaQ L hcl h i h1 hb (h3 _ ho)
    refine wpOp_mono (fun a' w' hJ'=>ih _ a' w' ?_ ?_ ?_ hJ') (hJ.step hst0 hN hT hO h1 h2 hbef fun ow=>ht ow i him)
    ·intro j o hj hoj e he hb
     have hmono:∀ x,L.getD x false = true → (L.setIfInBounds i true).getD x false = true:=fun x hx=>by
      by_cases e:x = i
      ·subst e; rw [h2] at hx; cases hx
      ·simpa [Zn7,Ne.symm e] using hx
     by_cases ej:j = i
     ·subst ej
      exact hmono _ (h3 o hoj e he hb)
     ·refine hmono _ (hcl j o ?_ hoj e he hb)
      simpa [Zn7,Ne.symm ej] using hj
    ·intro j hj
     by_cases ej:j = i
     ·omega
     ·exact hsub j (by simpa [Zn7,Ne.symm ej] using hj)
    ·have hlt:(L.setIfInBounds i true).toList.countP (fun b=>!b) + 1 = L.toList.countP (fun b=>!b):=by
      rw [ZpL]
      have hl:i < L.toList.length:=by simpa using hiL
      have h5:L.toList[i] = false:=by
       simp [Zn7,hiL] at h2
       simpa using h2
      rw [List.countP_set hl,h5]
      have hpos:0 < L.toList.countP (fun b=>!b):=by
       rw [List.countP_pos_iff]
       exact ⟨L.toList[i],Zoq hl,by rw [h5]; rfl⟩
      simp only [Zp6,ZnV,ZnY,Zn6,ZnI]
      omega
     omega
end
section
variable {P:Program} {ms:List Nat} {ops:Array Oper} {a0:Act} {w0:World} {Q:Exit → Act → World → Prop} {pds:List Pd} {σ:List (Nat × Value)} {N m:Nat}
def outVm (ops:Array Oper) (σ:List (Nat × Value)) (pds:List Pd) (m t:Nat):Option Value:=
 match lastW ops t m with
 | some i=>if (guardOf ops i).isNone then valAt pds i else none
 | none=>σ.lookup t
def npIdxM (m:Nat) (isP:List Bool):List Nat:=(List.range m).filter fun j=>!(isP.getD j false)
def pIdxM (m:Nat) (isP:List Bool):List Nat:=(List.range m).filter fun j=>isP.getD j false
def Pd.inst (ow:Nat → Nat):Pd → Pd
 | .own p=>.is (p ow)
 | p=>p
def instL (ow:Nat → Nat) (pds:List Pd):List Pd:=pds.map (Pd.inst ow)
theorem YC (ow:Nat → Nat) (pds:List Pd) (j:Nat):(instL ow pds).getD j .any = (pds.getD j .any).inst ow:=by
 unfold instL
 rw [Zn8,Zn8,ZnW]
 cases pds[j]? <;> rfl
theorem Zes (ow:Nat → Nat) (p:Pd):(p.inst ow).val? = p.val?:=by cases p <;> rfl
theorem ZgQ (ow:Nat → Nat) (p:Pd) (b:Bool):(p.inst ow).boolIs b = p.boolIs b:=by cases p <;> rfl
theorem ZgN (ow:Nat → Nat) (p:Pd):(p.inst ow).isBool = p.isBool:=by cases p <;> rfl
theorem Zc7 (ow:Nat → Nat) (pds:List Pd) (j:Nat):valAt (instL ow pds) j = valAt pds j:=by
 unfold valAt; rw [YC,Zes]
theorem Zfw (ow:Nat → Nat) (pds:List Pd) (j:Nat):envP ops σ (instL ow pds) j = envP ops σ pds j:=by
 funext x
 cases x with
 | tmp t=>rw [ZcI,ZcI]; simp only [Zc7]
 | _=>rfl
theorem ZiR (ow:Nat → Nat) (pds:List Pd) (j:Nat) (g:Option Nat) (b:Bool):envG ops σ (instL ow pds) j g b = envG ops σ pds j g b:=by
 funext x
 cases x with
 | tmp t=>rw [Ze8,Ze8]; simp only [Zc7]
 | _=>rfl
theorem Zhp (ow:Nat → Nat) (pds:List Pd) (j:Nat):pureV P ops σ (instL ow pds) j = pureV P ops σ pds j:=by
 unfold pureV
 simp only [Zfw,ZiR]
theorem Zhw (ow:Nat → Nat) (pds:List Pd) (eff:List Nat):statG ops (instL ow pds) eff = statG ops pds eff:=by
 unfold statG
 simp only [YC,ZgN]
 simp [instL]
theorem ZdP (ow:Nat → Nat) (pds:List Pd):∀ n j,gc ops (instL ow pds) n j = gc ops pds n j
 | 0,_=>rfl
 | n + 1,j=>by
  unfold gc
  simp only [YC,ZgQ,ZdP ow pds n]
def Pd.MonoO (p:Pd):Prop:=(∀ ow,(p.inst ow).Mono Non) ∧ ∀ ow ow' v (w:World),(∀ k,k < w.heap.size → ow k = ow' k) → (p.inst ow).sat v w → (p.inst ow').sat v w
theorem Pd.monoO_eq {v:Value}:(Pd.eq v).MonoO:=⟨fun _=>Pd.mono_eq,fun _ _ _ _ _ h=>h⟩
theorem Pd.monoO_is {p:Value → World → Prop} (h:(Pd.is p).Mono Non):(Pd.is p).MonoO:=⟨fun _=>h,fun _ _ _ _ _ h=>h⟩
def NPO (P:Program) (ms:List Nat) (ops:Array Oper) (pds:List Pd) (a0:Act) (w0:World) (Q:Exit → Act → World → Prop) (ow:Nat → Nat) (j:Nat):Prop:=NP P true ms ops [] pds (PhO ow j) Non a0 w0 Q j
theorem Zm1 {j:Nat} (ow:Nat → Nat) (h:NPB P true ms ops pds a0 w0 Q j):NPO P ms ops pds a0 w0 Q ow j:=by
 intro o ho a w k h1 h2 hP hc hg hk K hK
 exact h o ho a w k h1 h2 trivial hc hg hk K fun v w' hs hc' _=>hK v w' hs hc' fun x hx=>hP x (Zpb hc'.size hx)
theorem Znm (m:Nat) (ms:List Nat) (isP:List Bool) (pds:List Pd) (σ':List (Nat × Value)) (hF:FrS N σ a0) (hst:(stat true ms ops [] N && statG ops pds [] && sufB ops m) = true)
  (hp:(pIdxM m isP).map (pureV P ops σ pds) = (pIdxM m isP).map fun j=>(pds.getD j .any).val?)
  (hps:((pIdxM m isP).all fun j=>(pds.getD j .any).val?.isSome) = true)
  (hrest:((List.range ops.size).all fun j=>decide (j < m) || match pds.getD j .any with | .any=>true | _=>false) = true)
  (hmono:AllL (fun j=>(pds.getD j .any).MonoO) (npIdxM m isP))
  (hnp:∀ ow,Good ops (instL ow pds) [] → AllL (NPO P ms ops (instL ow pds) a0 w0 Q ow) (npIdxM m isP))
  (hout:σ'.map (fun p=>outVm ops σ pds m p.1) = σ'.map fun p=>some p.2)
  (post:∀ ow a w,FrS N σ' a → EndM ops (TT ops (instL ow pds)) a0 m a w → Chg Non w0 w → wpFrom P ops Q m a w):RA P ops Q a0 w0:=by
 rw [ZnB,ZnB] at hst
 obtain ⟨⟨hst,hsg⟩,hsuf⟩:=hst
 have hGo:∀ ow,Good ops (instL ow pds) []:=fun ow=>ZfH (by rw [Zhw]; exact hsg)
 have hmn:m ≤ ops.size:=by
  unfold sufB at hsuf
  rw [ZnB] at hsuf
  simpa using hsuf.1
 have hlen:pds.length = ops.size:=by
  unfold statG at hsg
  rw [ZnB] at hsg
  simpa using hsg.1
 have hmonoAll:∀ j,(pds.getD j .any).MonoO:=by
  intro j
  by_cases hj:j < m
  ·cases hb : isP.getD j false with
   | false=>exact hmono.mem (Zoc.2 ⟨Zoa.2 hj,by simp only [hb]; rfl⟩)
   | true=>
    rw [ZnP] at hps
    have:=hps j (Zoc.2 ⟨Zoa.2 hj,hb⟩)
    obtain ⟨v,hv⟩:=Zpw.1 this
    cases hpj:pds.getD j .any with
    | eq u=>exact Pd.monoO_eq
    | is p=>rw [hpj] at hv; cases hv
    | own p=>rw [hpj] at hv; cases hv
    | any=>exact ⟨fun _=>Pd.mono_any,fun _ _ _ _ _ h=>h⟩
  ·have:pds.getD j .any = .any:=by
    by_cases hjs:j < ops.size
    ·rw [ZnP] at hrest
     have:=hrest j (Zoa.2 hjs)
     simp only [hj,decide_false,Zo4] at this
     split at this
     ·assumption
     ·cases this
    ·rw [Zn8,ZnT (by omega)]; rfl
   rw [this]; exact ⟨fun _=>Pd.mono_any,fun _ _ _ _ _ h=>h⟩
 have hdst:∀ d,(∃ i,wr ops d i = true) → d < N:=by
  intro d ⟨i,hi⟩
  have hst':=hst
  unfold stat at hst'
  simp only [ZnB,ZnP,Zoa] at hst'
  have hil:=ZiB hi
  have:=hst'.2 i hil
  have ho:ops[i]? = some ops[i]:=by simp [hil]
  rw [Zn7,ho] at this
  unfold wr at hi
  rw [ho] at hi
  simp only [Zn4,ZoN] at hi
  simpa [hi] using this
 unfold RA
 refine ZjI (T:=fun ow=>TT ops (instL ow pds)) (S:=Non) hst hsuf hF.size (fun ow i v w w' ht hc=>⟨fun hg=>by rw [YC]; exact (hmonoAll i).1 ow v w w' (by have:=ht.1 hg; rw [YC] at this; exact this) hc,ht.2⟩) (fun ow ow' i v w hag ht=>⟨fun hg=>by
  rw [ZdP] at hg
  have:=ht.1 (by rw [ZdP]; exact hg)
  rw [YC] at this ⊢
  exact (hmonoAll i).2 ow ow' v w hag this,fun hg=>ht.2 (by rw [ZdP] at hg ⊢; exact hg)⟩) (fun ow j hj=>?_) (fun ow a w hE hc=>?_) ops.size _ a0 _ (fun j o hj=>?_) (fun i hi=>?_) ?_ ⟨fun _=>0,J.start (w0:=w0) (fun _ _=>trivial) _⟩
 ·refine Zf2 (hGo ow) hF.size hdst ?_
  cases hb:isP.getD j false with
  | false=>exact (hnp ow (hGo ow)).mem (Zoc.2 ⟨Zoa.2 hj,by simp only [hb]; rfl⟩)
  | true=>
   have hm:j ∈ pIdxM m isP:=Zoc.2 ⟨Zoa.2 hj,hb⟩
   rw [ZnP] at hps
   have h1:=hps j hm
   exact Zij (hGo ow) hF (by simp) (by rw [Zhp,YC,Zes]; exact ZoI.1 hp j hm) (by rw [YC,Zes]; exact h1)
 ·have h := post ow a w ⟨hE.1.trans hF.defers, hE.2.1.trans hF.size, fun t v hv => ?_⟩ hE hc
  ·simpa [wpFrom] using h
  ·have hm := Zag hv
   have h:=ZoI.1 hout _ hm
   have h1:=hE.2.2 t
   unfold Know at h1
   unfold outVm at h
   cases hl:lastW ops t m with
   | none=>simp only [hl] at h h1; rw [h1]; exact hF.get t v h
   | some i=>
    simp only [hl] at h h1
    split at h
    ·rename_i hg
     have hi:=Xu hl
     have hgi:gc ops (instL ow pds) ops.size i:=by
      obtain ⟨k,hk⟩ : ∃ k,ops.size = k + 1:=⟨ops.size - 1,by omega⟩
      rw [hk]; unfold gc
      rw [ZoM] at hg
      rw [hg]; trivial
     have h2:=h1.1 hgi
     rw [YC] at h2
     unfold valAt Pd.val? at h
     split at h
     ·rename_i u hu
      simp only [Option.some.injEq] at h; subst h
      rw [hu] at h2; exact h2
     ·cases h
    ·cases h
 ·simp [Zn7, Zpj] at hj
  split at hj <;> simp at hj
 ·simp [Zn7, Zpj] at hi
  split at hi <;> simp at hi
 ·refine Zpb List.countP_le_length ?_
  simp
end
theorem row_one {cur cs:List Value} {s p off:Nat} {u:Value} (hcs:cs.length = s) (hoff:off < s) (hfit:p + s ≤ cur.length) (heq:∀ j,j < s → cur[p + j]? = cs[j]?) :
  cur.take (p + off) ++ [u] ++ cur.drop (p + off + 1) = cur.take p ++ cs.set off u ++ cur.drop (p + (cs.set off u).length):=by
 apply Zo8
 intro i
 simp only [Zp0,ZnD,ZnF,ZnL,Zom,Zqc,Zok,ZoC,ZoU,hcs]
 have h1:min (p + off) cur.length = p + off:=by omega
 have h2:min p cur.length = p:=by omega
 simp only [h1,h2]
 by_cases ha:i < p
 ·simp [ha,show i < p + off + 1 by omega,show i < p + off by omega,show i < p + s by omega]
 ·by_cases hb : i < p + s
  ·have := heq (i - p) (by omega)
   rw [show p + (i - p) = i by omega] at this
   by_cases hc:i < p + off
   ·simp [ha,hb,hc,show i < p + off + 1 by omega,show ¬ (off = i - p) by omega,this]
   ·by_cases hd : i = p + off
    ·subst hd
     have e9:p + off - p = off:=by omega
     have e8:¬ (p + off < p):=by omega
     simp [hoff,e9,e8]
    ·simp [ha, hb, show ¬ (i < p + off + 1) by omega, show ¬ (off = i - p) by omega]
     rw [show p + off + 1 + (i - (p + off + 1)) = i by omega]; exact this
  ·simp [hb, show ¬ (i < p + off + 1) by omega]
   congr 1; omega
section
variable {P:Program} {α:Type} [Flat α] {w:World} {E T:TypeId} {go:Option Nat} {G:Nat → Prop} {v:Value} {l:List α}
theorem OwnS.setCell_run (h:OwnS w E go G Non v l) (hE:Ty P E α) {n off:Nat} {x x':α} (hx:l[n]? = some x) (hoff:off < Rep.sz α) {u:Value} (h1:u.oneCell' = true) (hx':Flat.enc x' = (Flat.enc x).set off u) (hT:(P.info? T).map (·.size) = some 1) :
  ∃ g w',go = some g ∧ (∃ c,v = .slice (some ⟨g,0,none⟩) l.length c) ∧ (storeVar T ((⟨g,0,none⟩ : Addr).add (n * Rep.sz α + off)) u).run P w = .ok () w' ∧ OwnS w' E go G Non v (l.set n x') ∧ Chg (fun k=>go = some k) w w':=by
 have hn:n < l.length:=(Zn9.1 hx).1
 obtain ⟨g,w1,hgo,⟨c,hv⟩,hrun,ho,hc⟩:=h.set_run (P:=P) hE (Fr:=Non) (u:=Rep.val α (Flat.enc x')) (x:=x') ⟨_,Flat.iff.2 rfl,rfl⟩ (Fu:=Non) Zb9 (fun _ _ h=>h.elim) hn
 refine ⟨g,w1,hgo,⟨c,hv⟩,?_,ho,hc⟩
 obtain ⟨F,css,g1,g2,g3,g4,g5⟩:=h
 rcases g2.2 with ⟨hv2,hz⟩ | ⟨g',cap,cur,hv2,hb,hg,hnc,hcm,hcs,htake⟩
 ·omega
 rw [hv] at hv2
 simp only [Value.slice.injEq,Option.some.injEq,Addr.mk.injEq,ZrF,ZrE] at hv2
 obtain ⟨rfl,rfl⟩:=hv2
 have hlenx:(Flat.enc x).length = Rep.sz α:=Rep.len (Flat.iff (w:=w) (F:=Non).2 rfl)
 have hlenx':(Flat.enc x').length = Rep.sz α:=Rep.len (Flat.iff (w:=w) (F:=Non).2 rfl)
 have hone':∀ z ∈ Flat.enc x',z.oneCell' = true:=Rep.one (Flat.iff (w:=w) (F:=Non).2 rfl)
 have hvc:(Rep.val α (Flat.enc x')).cells = (Flat.enc x').toArray:=by
  unfold Rep.val
  cases hh:Rep.agg α with
  | true=>simp [Value.cells]
  | false=>
   have hcl:=hlenx'
   rw [Rep.sgl hh] at hcl
   match hq:Flat.enc x',hcl with
   | [c],_=>
    have h1:=hone' c (by rw [hq]; simp)
    simp only [Zn6,ZnI,List.headD_cons]
    cases c <;> simp_all [Value.cells,Value.oneCell']
 have hoffn:n * Rep.sz α + Rep.sz α ≤ l.length * Rep.sz α:=by
  rw [← Nat.succ_mul]; exact Zpa _ hn
 have hcap:l.length * Rep.sz α ≤ c * Rep.sz α:=Zpa _ hnc
 have e1:=run_storeCells_at (P:=P) g (n * Rep.sz α) E (Flat.enc x') 0 cur w hg (by rw [hlenx',hcs]; omega) hone'
 have e2:=run_storeCells_at (P:=P) g (n * Rep.sz α + off) E [u] 0 cur w hg (by simp; rw [hcs]; omega) (by simpa using h1)
 simp only [ZoQ] at e1 e2
 have haddr:∀ p,(⟨g,0,none⟩ : Addr).add p = ⟨g,p,none⟩:=fun p=>by unfold Addr.add; split <;> simp_all
 have r1:(storeVar E ((⟨g,0,none⟩ : Addr).add (n * Rep.sz α)) (Rep.val α (Flat.enc x'))).run P w = .ok () (w.setRow g (cur.toList.take (n * Rep.sz α) ++ Flat.enc x' ++ cur.toList.drop (n * Rep.sz α + (Flat.enc x').length)).toArray):=by
  rw [haddr]
  unfold storeVar
  simp only [Sem.run_bind,hE.sizeOf,Result.andThen_ok,hvc,Zqo,hlenx']
  rw [hlenx'] at e1
  simpa using e1
 rw [hrun] at r1
 simp only [Result.ok.injEq,ZrE] at r1
 have hcu:u.cells = #[u]:=by cases u <;> simp_all [Value.cells,Value.oneCell']
 have r2:(storeVar T ((⟨g,0,none⟩ : Addr).add (n * Rep.sz α + off)) u).run P w = .ok () (w.setRow g (cur.toList.take (n * Rep.sz α + off) ++ [u] ++ cur.toList.drop (n * Rep.sz α + off + 1)).toArray):=by
  cases hinf:P.info? T with
  | none=>rw [hinf] at hT; cases hT
  | some inf=>
   rw [hinf] at hT
   simp only [ZnM,Option.some.injEq] at hT
   rw [haddr]
   unfold storeVar
   simp only [Sem.run_bind,sizeOf,typeInfo,hcu]
   simpa [hinf,hT] using e2
 rw [r2,r1]
 congr 3
 rw [hx']
 refine row_one (s:=Rep.sz α) hlenx hoff (by simp only [ZoE]; rw [hcs]; omega) fun j hj=>?_
 have hxn:css[n]? = some (Flat.enc x):=by
  have hlt:n < css.length:=by rw [g1.1]; exact hn
  rw [Zn5 hlt]
  exact congrArg some (Flat.iff.1 (g1.2 n css[n] x (Zn5 hlt) hx))
 have hj':j < (Flat.enc x).length:=by omega
 have:=ZaM (s:=Rep.sz α) g1.lens hxn (Zn5 hj')
 rw [← htake,Zok] at this
 split at this
 ·rw [this,Zn5 hj']
 ·cases this
variable {ops:Array Oper} {Q:Exit → Act → World → Prop} {a:Act} {w0:World} {S S0 F F0:Nat → Prop} {N:Nat} {σ:List (Nat × Value)} {k d d2:Nat} {t ty:TypeId} {x y:Operand} {pos:String} {af:Array Edge} {L:List HP}
theorem ZhI {t' s' ty' ty2:TypeId} {fl:Nat} {idx z:Operand} {pos' pos2:String} {af' af2:Array Edge} {kd:IntKind} {n:Int} {q q':α} {off:Nat} {u:Value} (i:Nat) (hs:Sep L w S) (hM:Mem w0 S0 F0 w S F) (hL:L[i]? = some (SL E v l)) (ht:P.underlying t = some (.slice E)) (hE:Ty P E α)
  (hop:ops[k]? = some ⟨some d,.indexAddr t x idx,ty,pos,af,none⟩) (hop2:ops[k + 1]? = some ⟨some d2,.fieldAddr s' (.tmp d) fl,ty2,pos2,af2,none⟩) (hop':ops[k + 2]? = some ⟨none,.store t' (.tmp d2) z,ty',pos',af',none⟩) (hd:Nat.blt d N = true) (hd2:Nat.blt d2 N = true) (hF:FrS N σ a)
  (hx:opd σ x = some v) (hi:opd σ idx = some (.int kd n)) (hz:(match z with | .tmp s=>s != d && s != d2 | _=>true) = true) (hzu:opd σ z = some u) (hoff:fieldOff P s' fl = some off) (hlt:Nat.blt off (Rep.sz α) = true) (hT:(P.info? t').map (·.size) = some 1) (h1:u.oneCell' = true)
  (hq:get? l n = some q) (hu:Flat.enc q' = (Flat.enc q).set off u) {r:List α} (hr:set? l n q' = some r)
  (h:∀ w' S' fr p p2,Sep (L.set i (SL E v r)) w' S' → Stp w S w' S' → FrS N ((d2,p2) :: (d,p) :: σ) fr → wpFrom P ops Q (k + 3) fr w'):wpFrom P ops Q k a w:=by
 obtain ⟨A,hok,hup⟩:=hs.upd i hL hM
 rcases hok with ⟨go,ho⟩ | ⟨rfl,_,_⟩
 ·unfold set? at hr
  split at hr
  ·rename_i hn
   simp only [Option.some.injEq] at hr; subst hr
   obtain ⟨g,w',hgo,⟨c,rfl⟩,hrun,ho',hc⟩:=ho.setCell_run (P:=P) (T:=t') hE (get?_at hq) (Zon.mp hlt) h1 hu hT
   have hb:0 ≤ n ∧ n < (l.length:Int):=⟨hn.1,by omega⟩
   refine Zz hF hop rfl rfl (Zon.mp hd) (R:=fun p w1=>p = .pointer (some ((⟨g,0,none⟩ : Addr).add (n.toNat * Rep.sz α))) ∧ w = w1) (Zh ?_ ⟨rfl,rfl⟩) fun p w1 fr hp hF1=>?_
   ·simp [execOp,Instr.indexAt,Zd hF hx,Zd hF hi,asIntOf,run_underlying ht,hb,hE.sizeOf]
   ·obtain ⟨rfl, rfl⟩ := hp
    have hp1:=hF1.get d (.pointer (some ((⟨g,0,none⟩ : Addr).add (n.toNat * Rep.sz α)))) (by simp)
    refine Zz hF1 hop2 rfl rfl (Zon.mp hd2) (R:=fun p w1=>p = .pointer (some (((⟨g,0,none⟩ : Addr).add (n.toNat * Rep.sz α)).add off)) ∧ w = w1) (Zh (ZbR (P:=P) (ρ:=fun y=>match y with | .tmp s=>if s = d then some (.pointer (some ((⟨g,0,none⟩ : Addr).add (n.toNat * Rep.sz α)))) else none | _=>none) (fun y z hy=>by
     split at hy
     ·split at hy
      ·rename_i hyd; subst hyd; rw [← Option.some.inj hy]; exact hp1
      ·cases hy
     ·cases hy) (by simp [pe,hoff]) w) ⟨rfl,rfl⟩) fun p2 w1 fr2 hp2 hF2=>?_
    obtain ⟨rfl,rfl⟩:=hp2
    have hz':fr2.eval z = u:=by
     cases z with
     | tmp s=>
      simp only [ZnB,bne_iff_ne,ne_eq] at hz
      refine hF2.get s u ?_
      have e1:(s == d2) = false:=by simpa using hz.2
      have e2:(s == d) = false:=by simpa using hz.1
      rw [Zoi,e1,Zoi,e2]; exact hzu
     | const c=>simpa [opd,Act.eval] using hzu
     | global c=>simpa [opd,Act.eval] using hzu
     | func c=>simpa [opd,Act.eval] using hzu
    refine ZaY hF2 hop' rfl rfl (R:=fun _ w2=>w2 = w') (Za5 ?_ rfl) fun w2 hw2 hF3=>?_
    ·have hd1 := hF2.get d2 (.pointer (some (((⟨g, 0, none⟩ : Addr).add (n.toNat * Rep.sz α)).add off))) (by simp)
     rw [add_add] at hd1
     simp [execOp,Instr.storeAt,hd1,hz',Instr.sureAddr,hrun]
    ·obtain ⟨_, rfl⟩ := hw2
     obtain ⟨S',hp,hs'⟩:=hup (w':=w2) (P':=SL E _ (l.set n.toNat q')) (hc.mono fun k hk=>ho.inG hk) (.inl ⟨go,ho'.regard fun k _ hk=>.inl hk⟩)
     exact h w2 S' fr2 _ _ hs' hp hF3
  ·cases hr
 ·unfold set? at hr
  simp at hr
end
section
open Go.Maps
variable {P:Program} {k e t:TypeId} {κ β:Type} [Flat κ] [Flat β] [DecidableEq κ] (T:MapT P k e κ β)
variable {ops:Array Oper} {Q:Exit → Act → World → Prop} {a:Act} {w w0:World} {S S0 F F0:Nat → Prop} {N:Nat} {σ:List (Nat × Value)} {j d:Nat} {ty:TypeId} {x y z:Operand} {pos:String} {af:Array Edge} {L:List HP} {b:Nat} {m:List (κ × β)}
theorem mget?_fit {κ β:Type} [DecidableEq κ] {fit:κ → Bool} {z y:β} {m:List (κ × β)} {x:κ} (h:mget? fit z m x = some y):fit x = true:=by
 unfold mget? at h
 split at h
 ·assumption
 ·cases h
theorem mget?_val {κ β:Type} [DecidableEq κ] {fit:κ → Bool} {z y:β} {m:List (κ × β)} {x:κ} (h:mget? fit z m x = some y):mget z m x = y:=by
 unfold mget? at h
 split at h
 ·exact Option.some.inj h
 ·cases h
theorem mput?_fit {κ β:Type} {fit:κ → Bool} {y:β} {m r:List (κ × β)} {x:κ} (h:mput? fit m x y = some r):fit x = true:=by
 unfold mput? at h
 split at h
 ·rename_i h'; exact h'.1
 ·cases h
theorem mput?_val {κ β:Type} {fit:κ → Bool} {y:β} {m r:List (κ × β)} {x:κ} (h:mput? fit m x y = some r):r = (x,y) :: m:=by
 unfold mput? at h
 split at h
 ·exact (Option.some.inj h).symm
 ·cases h
theorem mput?_len {κ β:Type} {fit:κ → Bool} {y:β} {m r:List (κ × β)} {x:κ} (h:mput? fit m x y = some r):m.length < maxLen:=by
 unfold mput? at h
 split at h
 ·rename_i h'
  have:=h'.2
  unfold room at this
  simp only [maxLen]; omega
 ·cases h
theorem ZeW (hs:Sep L w S) (hM:Mem w0 S0 F0 w S F) (hm:∀ w,(Instr.makeMap t none).run P w = .ok (.map (some w.heap.size)) (w.alloc (.map #[] 0))) (hop:ops[j]? = some ⟨some d,.makeMap t none,ty,pos,af,none⟩) (hd:Nat.blt d N = true) (hF:FrS N σ a)
  (h:∀ b w' S' fr,Sep (MP T b [] :: L) w' S' → Stp w S w' S' → FrS N ((d,.map (some b)) :: σ) fr → wpFrom P ops Q (j + 1) fr w'):wpFrom P ops Q j a w:=by
 refine Zz hF hop rfl rfl (Zon.mp hd) (ZfW rfl (hm w)) fun v w' fr hv hF'=>?_
 obtain ⟨rfl,rfl⟩:=hv
 obtain ⟨S',hp,hs'⟩:=hs.new hM (Chg.alloc w (.map #[] 0)) (P:=MP T w.heap.size []) ⟨OwnM.made T,ZnK _⟩
 exact h _ _ S' fr hs' hp hF'
theorem ZkY (i:Nat) (hs:Sep L w S) (hL:L[i]? = some (MP T b m)) (ht:P.underlying t = some (.map k e)) (hop:ops[j]? = some ⟨some d,.lookup t x y false,ty,pos,af,none⟩) (hd:Nat.blt d N = true) (hF:FrS N σ a) {u:κ} (hu:T.fit u = true) (hx:opd σ x = some (.map (some b))) {vk:Value} (hy:opd σ y = some vk) (hk:Rep.val κ (Flat.enc u) = vk)
  {vr:Value} (hr:Rep.val β (Flat.enc (mget T.zero m u)) = vr) (h:∀ fr,FrS N ((d,vr) :: σ) fr → wpFrom P ops Q (j + 1) fr w):wpFrom P ops Q j a w:=by
 subst hr; subst hk
 exact Zz hF hop rfl rfl (Zon.mp hd) (Zd6 T rfl (hs.mp i hL) ht hu (Zd hF hx) (Zd hF hy)) fun v w' fr ⟨h1,h2⟩ hF'=>by subst h1; subst h2; exact h fr hF'
theorem mget2?_fit {κ β:Type} [DecidableEq κ] {fit:κ → Bool} {z:β} {y:β × Bool} {m:List (κ × β)} {x:κ} (h:mget2? fit z m x = some y):fit x = true:=by
 unfold mget2? at h
 split at h
 ·assumption
 ·cases h
theorem mget2?_val {κ β:Type} [DecidableEq κ] {fit:κ → Bool} {z:β} {y:β × Bool} {m:List (κ × β)} {x:κ} (h:mget2? fit z m x = some y):mget z m x = y.1 ∧ (m.lookup x).isSome = y.2:=by
 unfold mget2? at h
 split at h
 ·rw [← Option.some.inj h]; exact ⟨rfl,rfl⟩
 ·cases h
theorem mputE?_fit {κ β:Type} {fit:κ → Bool} {efit:β → Bool} {y:β} {m r:List (κ × β)} {x:κ} (h:mputE? fit efit m x y = some r):fit x = true:=by
 unfold mputE? at h
 split at h
 ·rename_i h'; exact h'.1
 ·cases h
theorem mputE?_efit {κ β:Type} {fit:κ → Bool} {efit:β → Bool} {y:β} {m r:List (κ × β)} {x:κ} (h:mputE? fit efit m x y = some r):efit y = true:=by
 unfold mputE? at h
 split at h
 ·rename_i h'; exact h'.2.1
 ·cases h
theorem mputE?_val {κ β:Type} {fit:κ → Bool} {efit:β → Bool} {y:β} {m r:List (κ × β)} {x:κ} (h:mputE? fit efit m x y = some r):r = (x,y) :: m:=by
 unfold mputE? at h
 split at h
 ·exact (Option.some.inj h).symm
 ·cases h
theorem mputE?_len {κ β:Type} {fit:κ → Bool} {efit:β → Bool} {y:β} {m r:List (κ × β)} {x:κ} (h:mputE? fit efit m x y = some r):m.length < maxLen:=by
 unfold mputE? at h
 split at h
 ·rename_i h'
  have:=h'.2.2
  unfold room at this
  simp only [maxLen]; omega
 ·cases h
theorem ZeD (i:Nat) (hs:Sep L w S) (hM:Mem w0 S0 F0 w S F) (hL:L[i]? = some (MP T b m)) (ht:P.underlying t = some (.map k e)) (hop:ops[j]? = some ⟨none,.mapUpdate t x y z,ty,pos,af,none⟩) (hF:FrS N σ a) {u:κ} (hu:T.fit u = true) (q:β) (he:T.efit q = true) (hm:m.length < maxLen) (hx:opd σ x = some (.map (some b)))
  {vk:Value} (hy:opd σ y = some vk) (hk:Rep.val κ (Flat.enc u) = vk) {vr:Value} (hz:opd σ z = some vr) (hr:Rep.val β (Flat.enc q) = vr)
  (h:∀ w' S',Sep (L.set i (MP T b ((u,q) :: m))) w' S' → Stp w S w' S' → FrS N σ a → wpFrom P ops Q (j + 1) a w'):wpFrom P ops Q j a w:=by
 subst hr; subst hk
 obtain ⟨A,hok,hup⟩:=hs.upd i hL hM
 refine ZaY hF hop rfl rfl (Zgs T rfl hok.1 ht hu q he hm (Zd hF hx) (Zd hF hy) (Zd hF hz)) fun w' ⟨_,h1,h2⟩ hF'=>?_
 obtain ⟨S',hp,hs'⟩:=hup (P':=MP T b ((u,q) :: m)) (h2.mono fun k hk=>by subst hk; exact hok.2) ⟨h1,.inl hok.2⟩
 exact h w' S' hs' hp hF'
theorem Zjo {draw:Bool} {ms:List Nat} {a0:Act} {pds:List Pd} {dst:Option Tmp} {g:Option (Nat × Bool)} (i:Nat) (hs:Sep L w S) (hL:L[i]? = some (MP T b m)) (ht:P.underlying t = some (.map k e)) (hG:Good ops pds []) (hF:FrS N σ a0) (ho:ops[j]? = some ⟨dst,.lookup t x y false,ty,pos,af,g⟩)
  {u:κ} (hx:envP ops σ pds j x = some (.map (some b))) {vk:Value} (hy:envP ops σ pds j y = some vk) (hk:Rep.val κ (Flat.enc u) = vk) (hu:gc ops pds ops.size j → T.fit u = true)
  {vr:Value} (hr:gc ops pds ops.size j → Rep.val β (Flat.enc (mget T.zero m u)) = vr) (hpd:pds.getD j .any = .eq vr):NPB P draw ms ops pds a0 w Q j:=
 Zco _ ho hG hF fun a w' hC hg hv _=>(Zd6 T rfl ((hs.ext hC).mp i hL) ht (hu hg) (hv x _ (by simp [Op.operands]) hx) (by rw [hv y _ (by simp [Op.operands]) hy,hk])).mono fun v w'' ⟨h1,h2⟩=>by
  subst h1; subst h2; rw [hpd]; exact ⟨hr hg,Chg.refl _ _⟩
theorem Zhk {draw:Bool} {ms:List Nat} {a0:Act} {pds:List Pd} {dst:Option Tmp} {g:Option (Nat × Bool)} (i:Nat) (hs:Sep L w S) (hL:L[i]? = some (MP T b m)) (ht:P.underlying t = some (.map k e)) (hG:Good ops pds []) (hF:FrS N σ a0) (ho:ops[j]? = some ⟨dst,.lookup t x y true,ty,pos,af,g⟩)
  {u:κ} (hx:envP ops σ pds j x = some (.map (some b))) {vk:Value} (hy:envP ops σ pds j y = some vk) (hk:Rep.val κ (Flat.enc u) = vk) (hu:gc ops pds ops.size j → T.fit u = true)
  {r:β × Bool} (hr:gc ops pds ops.size j → mget T.zero m u = r.1 ∧ (m.lookup u).isSome = r.2) {vr:Value} (hvr : .tuple #[Rep.val β (Flat.enc r.1),.bool r.2] = vr) (hpd:pds.getD j .any = .eq vr):NPB P draw ms ops pds a0 w Q j:=
 Zco _ ho hG hF fun a w' hC hg hv _=>(Zf7 T rfl ((hs.ext hC).mp i hL) ht (hu hg) (hv x _ (by simp [Op.operands]) hx) (by rw [hv y _ (by simp [Op.operands]) hy,hk])).mono fun v w'' ⟨h1,h2⟩=>by
  subst h1; subst h2; rw [hpd,← hvr,← (hr hg).1,← (hr hg).2]; exact ⟨rfl,Chg.refl _ _⟩
end
end Go.GL
end
section
namespace Go.GL
open Go.RowKit
section
variable {P:Program} {a:Act} {w:World} {N:Nat} {σ:List (Nat × Value)}
inductive Rets (P:Program) (σ:List (Nat × Value)) (w:World):List ResultVar → List Value → Prop
 | nil:Rets P σ w [] []
 | tmp {t:Tmp} {v:Value} {rs:List ResultVar} {vs:List Value} (h:σ.lookup t = some v) (r:Rets P σ w rs vs):Rets P σ w (.tmp t :: rs) (v :: vs)
 | cell {t:Tmp} {ty bt:TypeId} {α:Type} [Rep α] {b:Nat} {cs:List Value} {v:Value} {rs:List ResultVar} {vs:List Value} (h:σ.lookup t = some (.pointer (some ⟨b,0,none⟩))) (hty:Ty P ty α) (hb:Box w b bt cs) (hl:cs.length = Rep.sz α) (hv:Rep.val α cs = v) (r:Rets P σ w rs vs):Rets P σ w (.cell t ty :: rs) (v :: vs)
def getRes (a:Act):ResultVar → Sem Value
 | .tmp t=>pure (a.tmps.getD t undef)
 | .cell a' t=>do loadVar t (← asAddr (a.tmps.getD a' undef))
theorem ZkA {rs:List ResultVar} {vs:List Value} (hF:FrS N σ a) (h:Rets P σ w rs vs):(rs.mapM (getRes a)).run P w = .ok vs w:=by
 induction h with
 | nil=>simp
 | tmp h r ih=>
  have h1:=hF.get _ _ h
  simp only [Act.eval] at h1
  simp [Zp7,getRes,h1,ih]
 | cell h hty hb hl hv r ih=>
  have h1:=hF.get _ _ h
  simp only [Act.eval] at h1
  have h2:=Yz hty (ad:=⟨_,0,none⟩) hl hb.cells
  rw [hv] at h2
  simp [Zp7,getRes,h1,asAddr,h2,ih]
theorem retG {fn:Func} {R:Ending → World → Prop} {rs:List ResultVar} {vs:List Value} {v:Value} (hr:fn.results = rs.toArray) (hF:FrS N σ a) (hv:Rets P σ w rs vs) (hval:(if h:vs.toArray.size = 1 then vs.toArray[0] else .tuple vs.toArray) = v) (h:R (.returned v) w) :
  bodyPost P fn R .ret a w:=by
 refine ⟨hF.defers,v,?_,h⟩
 have:=ZkA (P:=P) hF hv
 have e:(results fn a.tmps).run P w = ((rs.toArray.mapM (getRes a)).run P w).andThen fun vs w=>(pure (if h:vs.size = 1 then vs[0] else .tuple vs):Sem Value).run P w:=by
  unfold results
  rw [hr,Sem.run_bind]
  refine congrArg (fun m=>Result.andThen (Sem.run P m w) _) (congrArg (fun f=>Array.mapM f rs.toArray) ?_)
  funext x; cases x <;> rfl
 rw [e,Array.mapM_eq_mapM_toList]
 simp only [Sem.run_map,this]
 simp only [Result.andThen_ok,Sem.run_pure]
 rw [hval]
end
section
variable {P:Program} {draw:Bool} {ms:List Nat} {ops:Array Oper} {a0:Act} {w0:World} {Q:Exit → Act → World → Prop} {pds:List Pd} {σ:List (Nat × Value)} {N j:Nat} {dst:Option Tmp} {g:Option (Nat × Bool)}
  {t ty:TypeId} {x y:Operand} {pos:String} {af:Array Edge} {ι:Type} {V:ι → Value} {H:ι → HP} {ow:Nat → Nat}
theorem Zki:(Pd.own fun ow v w=>∃ i,v = V i ∧ (H i).ok w (fun k=>w0.heap.size ≤ k ∧ k < w.heap.size ∧ ow k = j)).MonoO :=
  ⟨fun ow v w w' ⟨i, h1, h2⟩ hc => ⟨i, h1, (H i).mono ((H i).keep h2 hc fun _ _ => id) fun k hk hh => ⟨hh.1, hk, hh.2.2⟩⟩,
   fun ow ow' v w hag ⟨i,h1,h2⟩=>⟨i,h1,(H i).mono h2 fun k hk hh=>⟨hh.1,hh.2.1,by rw [← hag k hk]; exact hh.2.2⟩⟩⟩
theorem ZiN (o:Oper) (ho:ops[j]? = some o) (hG:Good ops pds []) (hF:FrS N σ a0)
  (hd : ∀ a w, Chg Non w0 w → gc ops pds ops.size j → (∀ x v, x ∈ o.op.operands → envP ops σ pds j x = some v → a.eval x = v) → (∀ t, Operand.tmp t ∈ o.op.operands → Know ops (TT ops pds) a0 j t (a.eval (.tmp t)) w) →
   Does P o a w fun v w'=>(∃ i,v = V i ∧ (H i).ok w' (fun k=>w.heap.size ≤ k)) ∧ Chg Non w w')
  (hpd:pds.getD j .any = .is fun v w=>∃ i,v = V i ∧ (H i).ok w (fun k=>w0.heap.size ≤ k ∧ k < w.heap.size ∧ ow k = j)):NPO P ms ops pds a0 w0 Q ow j:=by
 intro o' ho' a w k _ _ hP hC hg hk K hK
 rw [ho] at ho'
 obtain rfl:=Option.some.inj ho'
 refine hd a w hC hg (fun x v hx hv=>Zcl hG hF ho hg hk hx hv) (fun t ht=>hk t (Zai ht)) K Q fun v w' ⟨⟨i,h1,h2⟩,h3⟩=>hK v w' ?_ h3 fun x hx=>hP x (Zpb h3.size hx)
 rw [hpd]
 exact ⟨i,h1,(H i).mono h2 fun k hk hge=>⟨Zpb hC.size hge,hk,hP k hge⟩⟩
theorem ZmU (o:Oper) (ho:ops[j]? = some o) (hG:Good ops pds []) (hF:FrS N σ a0)
  (hd:∀ a w,Chg Non w0 w → gc ops pds ops.size j → (∀ x v,x ∈ o.op.operands → envP ops σ pds j x = some v → a.eval x = v) → Does P o a w fun v w'=>(∃ i,v = V i ∧ (H i).ok w' (fun k=>w.heap.size ≤ k)) ∧ Chg Non w w')
  (hpd:pds.getD j .any = .is fun v w=>∃ i,v = V i ∧ (H i).ok w (fun k=>w0.heap.size ≤ k ∧ k < w.heap.size ∧ ow k = j)):NPO P ms ops pds a0 w0 Q ow j:=
 ZiN o ho hG hF (fun a w h1 h2 h3 _=>hd a w h1 h2 h3) hpd
theorem ZmO {α:Type} [Rep α] {E:TypeId} {n:Nat} {parts:Array (Nat × Operand)} (cells:List Value) (css:List (List Value)) (l:List α) (hG:Good ops pds []) (hF:FrS N σ a0) (ho:ops[j]? = some ⟨dst,.buildSlice t n parts,ty,pos,af,g⟩)
  (vals:List Value) (hv:parts.toList.map (fun p=>envP ops σ pds j p.2) = vals.map some)
  (hrun:∀ w,(Instr.buildSlice t n ((parts.toList.map (·.1)).zip vals).toArray).run P w = .ok (.slice (some ⟨w.heap.size,0,none⟩) n n) (w.alloc (.cells cells.toArray E)))
  (hcss:∀ w,Css w Non css l) (hfl:css.flatten = cells) (hln:l.length = n) (hmax:Nat.ble l.length room = true)
  (hpd:pds.getD j .any = .is fun v w=>∃ i:Option Addr × Nat,v = .slice i.1 (List.length l) i.2 ∧ (SL E (.slice i.1 (List.length l) i.2) l).ok w (fun k=>w0.heap.size ≤ k ∧ k < w.heap.size ∧ ow k = j)):NPO P ms ops pds a0 w0 Q ow j:=
 ZmU (V:=fun i:Option Addr × Nat=>.slice i.1 (List.length l) i.2) (H:=fun i=>SL E (.slice i.1 (List.length l) i.2) l) _ ho hG hF (fun a w _ hg hvv=>by
  have hmax':l.length ≤ maxLen:=by
   have:=Zqv hmax
   unfold room at this
   simp only [maxLen]; omega
  have hown:=Zib (w:=w) (E:=E) (G:=fun k=>w.heap.size ≤ k) (FF:=Non) (hcss w) hfl hmax' (ZnK _) (fun _ _ h=>h)
  refine Zh (v:=.slice (some ⟨w.heap.size,0,none⟩) l.length l.length) (w':=w.alloc (.cells cells.toArray E)) ?_ ⟨⟨(some ⟨w.heap.size,0,none⟩,l.length),rfl,.inl ⟨_,hown⟩⟩,Chg.alloc _ _⟩
  have e:(parts.map fun p=>(p.1,a.eval p.2)) = ((parts.toList.map (·.1)).zip vals).toArray:=by
   have key:∀ (ps:List (Nat × Operand)) (vs:List Value),(∀ p ∈ ps,p.2 ∈ (Op.buildSlice t n parts).operands) → ps.map (fun p=>envP ops σ pds j p.2) = vs.map some → ps.map (fun p=>(p.1,a.eval p.2)) = (ps.map (·.1)).zip vs:=by
    intro ps
    induction ps with
    | nil=>intro vs _ h; cases vs with
     | nil=>rfl
     | cons=>simp at h
    | cons p ps ih=>intro vs hm h; cases vs with
     | nil=>simp at h
     | cons v vs=>
      simp only [ZnE,List.cons.injEq] at h
      rw [ZnE,ZnE,Zq7,ih vs (fun p hp=>hm p (ZnZ _ hp)) h.2,hvv p.2 v (hm p ZnR) h.1]
   have:=key parts.toList vals (fun p hp=>by simp [Op.operands]; exact ⟨p.1,by simpa using hp⟩) hv
   rw [← this]; cases parts; simp
  have hr:=hrun w
  rw [← e] at hr
  simp only [execOp]
  rw [hln]
  simpa using congrArg (fun r=>r.andThen fun v w=>Result.ok (Next.value v) w) hr) hpd
theorem ZjZ {f:FuncId} {xs:Array Operand} {ts:Array TypeId} (spec:List (Value ⊕ Nat)) (hG:Good ops pds []) (hF:FrS N σ a0) (hf:∀ (args:Array Value) (w:World),(callFunc f args).run P w = .ok (.enter f args) w)
  (ho:ops[j]? = some ⟨dst,.call ⟨.value (.func f),xs,ts⟩,ty,pos,af,g⟩) (hj:Nat.blt j ops.size = true) (hargs:xs.toList.map (argSpec ops σ pds j) = spec.map some)
  (hpd:pds.getD j .any = .is fun v w=>∃ i,v = V i ∧ (H i).ok w (fun k=>w0.heap.size ≤ k ∧ k < w.heap.size ∧ ow k = j))
  (hc:∀ w vs,Chg Non w0 w → gc ops pds ops.size j → SpecP pds w spec vs → Calls P f vs.toArray w fun e w'=>∃ v,e = .returned v ∧ Chg Non w w' ∧ ∃ i,v = V i ∧ (H i).ok w' (fun k=>w.heap.size ≤ k)):NPO P ms ops pds a0 w0 Q ow j:=
 ZiN _ ho hG hF (fun a w hC hg hv hk=>by
  have h1:=ZiS (o:=⟨dst,.call ⟨.value (.func f),xs,ts⟩,ty,pos,af,g⟩) (xs:=xs.toList) hG hj hg (fun x hx=>by simp [Op.operands,Call.operands]; exact .inr (by simpa using hx)) hv hk hargs
  exact Zdn (args:=(xs.toList.map a.eval).toArray) rfl hf (by cases xs; simp) ((hc w _ hC hg h1).mono fun e w' ⟨v,he,h2,h3⟩=>⟨v,he,h3,h2⟩)) hpd
def AllP {α:Type} (q:α → Prop):List α → Prop
 | []=>True
 | x :: l=>q x ∧ AllP q l
theorem AllP.mem {α:Type} {q:α → Prop} {x:α}:∀ {l:List α},AllP q l → x ∈ l → q x
 | _ :: _,h,hm=>by
  cases hm with
  | head=>exact h.1
  | tail _ hm=>exact AllP.mem h.2 hm
theorem sepO {w:World} (l:List (Nat × HP)) (hn:(l.map (·.1)).Nodup) (h:AllP (fun p=>p.2.ok w (fun k=>w0.heap.size ≤ k ∧ k < w.heap.size ∧ ow k = p.1)) l) {L:List HP} (hL:l.map (·.2) = L):Sep L w (fun k=>w0.heap.size ≤ k ∧ k < w.heap.size):=by
 subst hL
 refine ⟨fun i k=>∃ p,l[i]? = some p ∧ w0.heap.size ≤ k ∧ k < w.heap.size ∧ ow k = p.1,fun i P hi=>?_,fun i j k hne ⟨p,hp,_,_,h1⟩ ⟨q,hq,_,_,h2⟩=>?_⟩
 ·rw [ZnW] at hi
  cases hp:l[i]? with
  | none=>rw [hp] at hi; cases hi
  | some p=>
   rw [hp] at hi
   simp only [ZnM,Option.some.injEq] at hi
   subst hi
   exact ⟨p.2.mono (h.mem (ZnN hp)) fun k _ hk=>⟨p,hp,hk⟩,fun k ⟨q,_,h1,h2,_⟩=>⟨h1,h2⟩⟩
 ·refine hne (ZiA hn (x := p.1) ?_ ?_)
  ·rw [ZnW,hp]; rfl
  ·rw [ZnW,hq]; simp only [ZnM,Option.some.injEq]; rw [← h2,h1]
theorem ZlS {w w':World} (hc:Chg Non w w'):Stp w Non w' (fun k=>w.heap.size ≤ k ∧ k < w'.heap.size):=⟨hc,fun _ hk=>.inr hk.1,fun _ hk=>hk.2⟩
theorem EndM.is {m:Nat} {a:Act} {w:World} (hE:EndM ops (TT ops pds) a0 m a w) (t i:Nat) (hl:lastW ops t m = some i) (hg:guardOf ops i = none):(pds.getD i .any).sat (a.eval (.tmp t)) w:=by
 have h1:=hE.2.2 t
 unfold Know at h1
 rw [hl] at h1
 refine h1.1 ?_
 have hi:=Xu hl
 obtain ⟨m,hm⟩ : ∃ m,ops.size = m + 1:=⟨ops.size - 1,by have:=ZiB hi.2; omega⟩
 rw [hm]; unfold gc; rw [hg]; trivial
end
theorem Sep.front {α:Type} [Flat α] {w w0:World} {S S0 F F0:Nat → Prop} {L:List HP} {E:TypeId} {b:Option Addr} {len0 c:Nat} {n:Int} {l r:List α} (i:Nat) (hs:Sep L w S) (hM:Mem w0 S0 F0 w S F) (hL:L[i]? = some (SL E (.slice b len0 c) l)) (hr:cut? l 0 n = some r) :
  ∃ S',Stp w S w S' ∧ Sep (L.set i (SL E (.slice b (List.length r) c) r)) w S':=by
 obtain ⟨A,hok,hup⟩:=hs.upd i hL hM
 unfold cut? at hr
 split at hr
 ·rename_i hn
  simp only [Zre,Zpu,Option.some.injEq] at hr
  obtain ⟨_,hn1,hn2⟩:=hn
  have hlen:r.length = n.toNat:=by rw [← hr,ZnF]; omega
  refine hup (P':=SL E (.slice b (List.length r) c) r) (Chg.refl _ _) ?_
  rcases hok with ⟨go,ho⟩ | ⟨rfl,b',hb'⟩
  ·obtain ⟨a', c', hv⟩ := ho.slice
   simp only [Value.slice.injEq] at hv
   obtain ⟨rfl,rfl,rfl⟩:=hv
   refine .inl ⟨go,?_⟩
   rw [hlen,← hr]
   exact (ho.front (by omega)).regard fun k _ hk=>.inl hk
  ·simp only [Value.slice.injEq] at hb'
   obtain ⟨rfl,rfl,rfl⟩:=hb'
   have h0:r = []:=by rw [← hr]; simp
   exact .inr ⟨h0,b,by rw [h0]; rfl⟩
 ·cases hr
end Go.GL
namespace Go.GL
theorem Sep.relen {w:World} {S:Nat → Prop} {L:List HP} {α:Type} [Rep α] {E:TypeId} {a:Option Addr} {n c:Nat} {l:List α} (i:Nat) (h:Sep L w S) (hi:L[i]? = some (SL E (.slice a n c) l)):n = l.length ∧ Sep (L.set i (SL E (.slice a l.length c) l)) w S:=by
 obtain ⟨A,h1,h2⟩:=h.get i hi
 have e:n = l.length:=by
  rcases h1 with ⟨go,h1⟩ | ⟨rfl,a',h1⟩
  ·obtain ⟨a', c', hv⟩ := h1.slice
   simp only [Value.slice.injEq] at hv
   exact hv.2.1
  ·simp only [Value.slice.injEq] at h1
   exact h1.2.1
 subst e
 refine ⟨rfl,?_⟩
 have:L.set i (SL E (.slice a l.length c) l) = L:=by
  apply Zo8
  intro j
  rw [ZoU]
  split
  ·rename_i hj; subst hj
   rw [hi,ZnC (Zn9.1 hi).1]
  ·rfl
 rw [this]; exact h
end Go.GL
namespace Go.GL
theorem Zlr {α:Type} [Rep α] {w:World} {F:Nat → Prop} {a:Option Addr} {n c:Nat} {l:List α} (h:RV w F (.slice a n c) l) (ha:a = none):l = []:=by
 obtain ⟨a',c',hv,_,_,hne⟩:=h.slice
 simp only [Value.slice.injEq] at hv
 obtain ⟨rfl,_,_⟩:=hv
 cases l with
 | nil=>rfl
 | cons x l=>
  obtain ⟨ad,he,_⟩:=hne (by simp)
  rw [ha] at he; cases he
theorem ZiL {α:Type} {l r:List α} (hl:l = []) (h:((app? ([]:List α) l).bind fun x=>some x) = some r):some ([]:List α) = some r:=by
 subst hl
 unfold app? at h
 simpa using h
theorem Zf1 {P:Program} (t:TypeId) (x y:Operand) (a b:Option Addr) (n m c d:Nat) (w:World):(eqGuard .eql t x y (.slice a n c) (.slice b m d)).run P w = .ok () w:=by
 simp [eqGuard]
theorem nil_eq {P:Program} {t e:TypeId} (ht:P.underlying t = some (.slice e)) (a:Option Addr) (n c:Nat) (w:World):(binOp .eql t (.slice a n c) (.slice none 0 0)).run P w = .ok (.bool (Option.isNone a)) w:=by
 have h:(Op.equalIn (9999 + 1) t (.slice a n c) (.slice none 0 0)).run P w = .ok (Option.isNone a) w:=by
  unfold Op.equalIn
  cases a <;> simp [run_underlying ht]
 simp only [binOp,Op.equal,Op.maxDepth,Sem.run_bind,Sem.run_pure]
 rw [h]; rfl
end Go.GL
namespace Go.GL
def HP.sep (L:List HP):HP:={ ok:=Sep L,mono:=fun h hA=>h.mono hA,keep:=fun h hc hT=>h.keep hc hT }
theorem Sep.flat {w:World} {S:Nat → Prop} {L1 L2:List HP} (h:Sep (HP.sep L1 :: L2) w S):Sep (L1 ++ L2) w S:=by
 obtain ⟨A,R,h1,h2,h3,h4,h5⟩:=Sep.split (L1:=[HP.sep L1]) (L2:=L2) h
 obtain ⟨B,g1,g2⟩:=h1.get 0 rfl
 exact Sep.join (L1:=L1) g1 h2 (fun k _ ha hr=>h3 k (g2 k ha) hr) (fun k _ h=>h4 k (g2 k h)) (fun k _ h=>h5 k h)
section
variable {P:Program} {ops:Array Oper} {Q:Exit → Act → World → Prop} {a:Act} {w:World} {L:Array Bool}
theorem Zjt {id:Nat} {l:List Oper} (hmix:P.follows .mixedOrders = true) (h:∀ w',Chg Non w w' → wpAny P .any l.toArray Q l.toArray.size (Array.replicate l.toArray.size false) a w'):(Code.region id l.toArray true).wp P Q a w:=
 wp_region_any hmix (h _ (Chg.drew w))
theorem ZjT {l:List Oper} (h:∀ w',Chg Non w w' → wpAny P .any l.toArray Q l.toArray.size (Array.replicate l.toArray.size false) a w'):RA P l.toArray Q a w:=h _ (Chg.drew w)
theorem Xe {fuel:Nat} (rs:List Nat) (hr:Region.ready .any ops L = rs) (hne:rs ≠ []) (h:AllL (fun i=>wpOp P ops Q i (wpAny P .any ops Q fuel (L.setIfInBounds i true)) a w) rs):wpAny P .any ops Q (fuel + 1) L a w:=
 ⟨fun h0=>absurd (hr.symm.trans h0) hne,fun i hi=>h.mem (by rw [← hr]; exact hi)⟩
theorem Zjh {o:Oper} {K' K:Act → World → Prop} (hk:∀ a w,K' a w → K a w) (h:o.wp P a w K' (Exit.then K Q)):o.wp P a w K Q:=by
 unfold Oper.wp at *
 generalize (execOp a.eval o).run P w = r at *
 cases r with
 | ok n w=>
  cases n with
  | value v=>exact hk _ w h
  | skip=>exact hk _ w h
  | defer d=>exact hk _ w h
  | enter f args=>
   refine Calls.mono h fun e w' he=>?_
   cases e with
   | returned v=>exact hk _ w' he
   | panicked c=>exact he
   | outgrown=>exact he
  | row r args=>exact Rows.mono h fun v w' he=>hk _ w' he
  | _=>exact h
 | halt hh w=>
  cases hh with
  | panic v=>exact h
  | _=>exact h
theorem ZM {i:Nat} {K:Act → World → Prop} (o:Oper) (ho:ops[i]? = some o) (hg:o.guard = none) (h:wpFrom P #[o] (Exit.then K Q) 0 a w):wpOp P ops Q i K a w:=by
 unfold wpOp
 simp only [ho]
 have hw:∀ y,Region.wanted o y = true:=fun y=>by simp [Region.wanted,hg]
 rw [ZnC (hw _)]
 unfold wpFrom at h
 simp only [Zpu] at h
 unfold wpList at h
 rw [ZnC (hw _)] at h
 rcases h with h | ⟨h1,h2⟩
 ·left
  refine Zjh (K':=wpList P #[o] (Exit.then K Q) []) (fun a w hh=>?_) h
  unfold wpList at hh
  exact hh
 ·exact .inr ⟨h1,h2⟩
def takesB (ops:Array Oper):Array Bool → List Nat → Bool
 | _,[]=>true
 | L,i :: is=>Region.free .any ops L i && (Region.ready .any ops L).contains i && takesB ops (L.setIfInBounds i true) is
theorem Zgh {fuel:Nat} (hr:Region.ready .any ops L = []) (h:Q .normal a w):wpAny P .any ops Q fuel L a w:=by
 cases fuel with
 | zero=>exact ⟨hr,h⟩
 | succ n=>exact ⟨fun _=>h,fun i hi=>by rw [hr] at hi; cases hi⟩
end
def quietB (σ:List (Nat × Value)) (o:Oper):Bool:=
 match o.op with
 | .move _=>true
 | .binOp .sub _ x y _=>(match opd σ x,opd σ y with | some (.int .i64 _),some (.int .i64 _)=>true | _,_=>false)
 | .binOp .add _ x y _=>(match opd σ x,opd σ y with | some (.int .i64 _),some (.int .i64 _)=>true | _,_=>false)
 | _=>false
theorem Zh1 {P:Program} {N:Nat} {σ:List (Nat × Value)} {o:Oper} {a:Act} {w:World} (hF:FrS N σ a) (h:quietB σ o = true):¬ o.asks P a w:=by
 intro hk
 have h1:=hk.1
 unfold quietB at h
 split at h
 ·rename_i x ho
  simp [execOp,ho,noRoomEvent] at h1
  have h5:noRoomEvent ∈ (#[]:Array _):=h1
  simp at h5
 ·rename_i t x y yt ho
  split at h
  ·rename_i m n hx hy
   simp [execOp,ho,Zd hF hx,Zd hF hy,binOp,Op.intArith,eqGuard,noRoomEvent] at h1
   have h5:noRoomEvent ∈ (#[]:Array _):=h1
   simp at h5
  ·cases h
 ·rename_i t x y yt ho
  split at h
  ·rename_i m n hx hy
   simp [execOp,ho,Zd hF hx,Zd hF hy,binOp,Op.intArith,eqGuard,noRoomEvent] at h1
   have h5:noRoomEvent ∈ (#[]:Array _):=h1
   simp at h5
  ·cases h
 ·cases h
def hoistAll:List Nat → Array Oper → Array Oper
 | [],ops=>ops
 | f :: is,ops=>hoistAll is (hoist f ops)
section
variable {P:Program} {Q:Exit → Act → World → Prop} {w:World} {N:Nat}
theorem ZcK (i:Nat):∀ (is:List Nat) (ops:Array Oper) (o:Oper),ops[i]? = some o → ∃ af,(hoistAll is ops)[i]? = some { o with after:=af }
 | [],_,o,h=>⟨o.after,h⟩
 | f :: is,ops,o,h=>by
  have h1:∃ af,(hoist f ops)[i]? = some { o with after:=af }:=by
   rw [Za8,h]
   simp only [ZnM]
   split
   ·exact ⟨_,rfl⟩
   ·exact ⟨o.after,rfl⟩
  obtain ⟨af,h1⟩:=h1
  have h2:=ZcK i is (hoist f ops) { o with after:=af } h1
  exact h2
theorem Zcr:∀ (is:List Nat) (ops:Array Oper),(hoistAll is ops).size = ops.size
 | [],_=>rfl
 | f :: is,ops=>by unfold hoistAll; rw [Zcr is,Zc3]
theorem unhoistAll {fuel:Nat} {L:Array Bool} {a:Act}:∀ (is:List Nat) (ops:Array Oper),(∀ f ∈ is,L.getD f false = true) → wpAny P .any (hoistAll is ops) Q fuel L a w → wpAny P .any ops Q fuel L a w
 | [],_,_,h=>h
 | f :: is,ops,hl,h=>ZaU fuel L a w (hl f (by simp)) (unhoistAll is (hoist f ops) (fun g hg=>hl g (by simp [hg])) h)
def quietS (P:Program) (N:Nat) (ops:Array Oper):List Nat → List (Nat × Value) → Bool
  | [],_=>true
  | i :: is, σ =>
    match ops[i]? with
    | some o =>
      (match o.guard, o.dst, pe P (opd σ) o.op with
       | none,some d,some v=>quietB σ o && decide (d < N) && quietS P N ops is ((d,v) :: σ)
       | _,_,_=>false)
    | none=>false
theorem Zen {fuel:Nat} {ops H:Array Oper} (hget:∀ (i:Nat) (o:Oper),ops[i]? = some o → ∃ af,H[i]? = some { o with after:=af }) (hns:Region.noSelect ops = true) (hQ:∀ c a d v w,Q (.panic c) (Act.put a (some d) v) w → Q (.panic c) a w) :
  ∀ (is:List Nat) (L:Array Bool) (σ:List (Nat × Value)) (a:Act),FrS N σ a → takesB ops L is = true → takesB H L is = true → quietS P N ops is σ = true →
   (∀ a',wpAny P .any H Q fuel (is.foldl (fun L i=>L.setIfInBounds i true) L) a' w → wpAny P .any ops Q fuel (is.foldl (fun L i=>L.setIfInBounds i true) L) a' w) →
   wpAny P .any H Q (fuel + is.length) L a w → wpAny P .any ops Q (fuel + is.length) L a w
 | [],L,σ,a,_,_,_,_,hk,h=>hk a h
 | i :: is,L,σ,a,hF,ht,hH,hq,hk,h=>by
  simp only [takesB,ZnB] at ht hH
  obtain ⟨⟨h1,h2⟩,h3⟩:=ht
  obtain ⟨⟨g1,g2⟩,g3⟩:=hH
  unfold quietS at hq
  split at hq
  ·rename_i o ho
   split at hq
   ·rename_i d v hg hd hv
    simp only [ZnB,ZnO] at hq
    obtain ⟨⟨q1,hdN⟩,q2⟩:=hq
    have hrun:∀ w,(execOp a.eval o).run P w = .ok (.value v) w:=fun w=>ZbR (P:=P) (ρ':=a.eval) (fun x u hx=>Zd hF hx) hv w
    have hw:∀ y,Region.wanted o y = true:=fun y=>by simp [Region.wanted,hg]
    have hy:Yields P ops o v a:=.inl ⟨hw _,hrun⟩
    refine wpAny_take (fuel:=fuel + is.length) ho hns h1 h2 (fun c a w=>by rw [hd]; exact hQ c a d v w) hy ?_
    rw [hd]
    refine Zen hget hns hQ is _ _ _ (hF.put hdN v) h3 g3 q2 hk ?_
    obtain ⟨af,hHi⟩:=hget i o ho
    have h4:wpOp P H Q i _ a w:=h.2 i (by simpa using g2)
    unfold wpOp at h4
    rw [hHi] at h4
    simp only at h4
    rw [ZnC (by simp [Region.wanted,hg])] at h4
    rcases h4 with h4 | h4
    ·unfold Oper.wp at h4
     have hr:(execOp a.eval { o with after:=af }).run P w = .ok (.value v) w:=hrun w
     rw [hr] at h4
     simp only [Oper.upon,hd] at h4
     exact h4
    ·exact absurd h4.1 (Zh1 hF (o:={ o with after:=af }) q1)
   ·cases hq
  ·cases hq
theorem ZiT {ops:Array Oper} (is:List Nat) {σ:List (Nat × Value)} {a:Act} (hF:FrS N σ a) (n:Nat) (hn:ops.size = n + is.length) (hns:Region.noSelect ops = true) (ht:takesB ops (Array.replicate ops.size false) is = true) (hH:takesB (hoistAll is ops) (Array.replicate ops.size false) is = true)
  (hq:quietS P N ops is σ = true) (hl:(is.all fun f=>(is.foldl (fun L i=>L.setIfInBounds i true) (Array.replicate ops.size false)).getD f false) = true) (hQ:∀ c a d v w,Q (.panic c) (Act.put a (some d) v) w → Q (.panic c) a w) (h:RA P (hoistAll is ops) Q a w):RA P ops Q a w:=by
 unfold RA at *
 rw [Zcr] at h
 have key:=fun w1:World=>Zen (w:=w1) (fuel:=n) (ops:=ops) (H:=hoistAll is ops) (fun i o ho=>ZcK i is ops o ho) hns hQ is (Array.replicate ops.size false) σ a hF ht hH hq (fun a' h'=>unhoistAll is ops (fun f hf=>ZnP.1 hl f hf) h')
 rw [← hn] at key
 exact key _ h
end
end Go.GL
namespace Go.GL
def FB (w:World) (F:Nat → Prop) (b:Nat) (t:TypeId) (cs:List Value):Prop:=Box w b t cs ∧ F b
section
variable {w w' w0:World} {F F' F0 S S' S0:Nat → Prop} {b:Nat} {t:TypeId} {cs:List Value}
theorem FB.ext (h:FB w F b t cs) (hc:Chg Non w w'):FB w' F b t cs:=⟨h.1.ext hc,h.2⟩
theorem FB.stp (h:FB w F b t cs) (hM:Mem w0 S0 F0 w S F) (hp:Stp w S w' S'):FB w' F b t cs:=⟨h.1.chg hp.chg fun hs=>hM.dj b hs h.2,h.2⟩
theorem FB.mem (h:FB w0 F0 b t cs) (hM:Mem w0 S0 F0 w S F):FB w F b t cs:=⟨h.1.chg hM.chg fun hs=>hM.dj0 b hs h.2,hM.fz b h.2⟩
theorem FB.big (h:FB w F b t cs) (hf:∀ k,F k → F' k):FB w F' b t cs:=⟨h.1,hf b h.2⟩
theorem FB.sub (h:FB w F b t cs) (hf:∀ k,k < w.heap.size → F k → F' k):FB w F' b t cs:=⟨h.1,hf b h.1.lt h.2⟩
theorem RV.len {α:Type} [Rep α] {a:Option Addr} {n c:Nat} {l:List α} (h:RV w F (.slice a n c) l):n = l.length:=by
 obtain ⟨a',c',hv,_⟩:=h.slice
 simp only [Value.slice.injEq] at hv
 exact hv.2.1
end
end Go.GL
namespace Go.GL
section
variable {P:Program} {a:Act} {w:World} {N:Nat} {σ:List (Nat × Value)}
theorem Zla {Q:Exit → Act → World → Prop} {x y:Code} {c:Operand} {b:Bool} (σ':List (Nat × Value)) (hF:FrS N σ a) (hc:opd σ c = some (.bool b)) (ht:b = true → x.wp P (fun e a' w'=>e = .normal ∧ w' = w ∧ FrS N σ' a') a w) (hf:b = false → y.wp P (fun e a' w'=>e = .normal ∧ w' = w ∧ FrS N σ' a') a w)
  (h:∀ a',FrS N σ' a' → Q .normal a' w):(Code.cond c x y).wp P Q a w:=
 Zid hF hc (fun hb=>wp_mono (ht hb) fun e a' w' ⟨h1,h2,h3⟩=>by subst h1; subst h2; exact h a' h3) (fun hb=>wp_mono (hf hb) fun e a' w' ⟨h1,h2,h3⟩=>by subst h1; subst h2; exact h a' h3)
end
end Go.GL
namespace Go.GL
theorem FrS.eqs {N:Nat} {σ σ':List (Nat × Value)} {a:Act} (h:FrS N σ a) (e:σ = σ'):FrS N σ' a:=e ▸ h
end Go.GL
end
section
namespace Go.GL
open Go.RowKit
section
variable {P:Program} {ops:Array Oper} {Q:Exit → Act → World → Prop} {a:Act} {w:World} {N:Nat} {σ:List (Nat × Value)} {k d:Nat} {t yt ty:TypeId} {x y:Operand} {pos:String} {af:Array Edge} {m n z:Int} {kd kk:IntKind} {s:Str}
theorem Zjz (ht:P.underlying t = some .string) (hz:sidx? s n = some z) (w:World):(Instr.index t s.val (.int kd n)).run P w = .ok (.int .u8 z) w:=by
 unfold sidx? at hz
 split at hz
 ·rename_i h0
  cases hb:s.bytes[n.toNat]? with
  | none=>rw [hb] at hz; cases hz
  | some b=>
   rw [hb] at hz
   simp only [ZnM,Option.some.injEq] at hz
   subst hz
   have e:(⟨s.bytes.toArray⟩ : ByteArray)[n.toNat]? = some b:=by
    have hlt:n.toNat < s.bytes.length:=(Zn9.1 hb).1
    have hlt':n.toNat < (⟨s.bytes.toArray⟩ : ByteArray).size:=by simpa [ByteArray.size] using hlt
    rw [getElem?_pos (⟨s.bytes.toArray⟩ : ByteArray) n.toNat hlt']
    have:=(Zn9.1 hb).2
    refine congrArg some ?_
    rw [← this]
    show (⟨s.bytes.toArray⟩ : ByteArray).data[n.toNat] = _
    simp
   simp [Instr.index,asIntOf,run_underlying ht,Str.val,h0,e]
 ·cases hz
theorem ZbG {o:Oper} (ho:o.op = .index t x y) (ht:P.underlying t = some .string) (hx:a.eval x = s.val) (hy:a.eval y = .int kd n) (hz:sidx? s n = some z):Does P o a w fun v w'=>v = .int .u8 z ∧ w' = w:=by
 refine Zh (v:=.int .u8 z) (w':=w) ?_ ⟨rfl,rfl⟩
 obtain ⟨dst,op,type,pos,after,guard⟩:=o
 simp only at ho; subst ho
 simp [execOp,hx,hy,Zjz ht hz w]
theorem ZlL (ht:P.underlying t = some .string) (ho:ops[k]? = some ⟨some d,.index t x y,ty,pos,af,none⟩) (hd:Nat.blt d N = true) (hF:FrS N σ a) (hx:opd σ x = some s.val) (hy:opd σ y = some (.int kd n)) (hz:sidx? s n = some z)
  (h:∀ fr,FrS N ((d,.int .u8 z) :: σ) fr → wpFrom P ops Q (k + 1) fr w):wpFrom P ops Q k a w:=
 Zz hF ho rfl rfl (Zon.mp hd) (ZbG rfl ht (Zd hF hx) (Zd hF hy) hz) fun _ _ fr ⟨hv,hw⟩ hF'=>by subst hv; subst hw; exact h fr hF'
theorem Zlv (h:shrK? kk m n = some z) (t:TypeId) (w:World):(binOp .shr t (.int kk m) (.int kd n)).run P w = .ok (.int kk z) w:=by
 unfold shrK? at h
 split at h
 ·cases h
 ·rename_i hb
  simp only [Option.some.injEq] at h; subst h
  simp [binOp,Op.shift,hb]
theorem Zna (ho:ops[k]? = some ⟨some d,.binOp .shr t x y yt,ty,pos,af,none⟩) (hd:Nat.blt d N = true) (hF:FrS N σ a) (hx:opd σ x = some (.int kk m)) (hy:opd σ y = some (.int kd n)) (hz:shrK? kk m n = some z)
  (h:∀ fr,FrS N ((d,.int kk z) :: σ) fr → wpFrom P ops Q (k + 1) fr w):wpFrom P ops Q k a w:=Zd9 ho hd hF hx hy (by simp [eqGuard]) (Zlv hz _ _) h
end
section
variable {P:Program} {draw:Bool} {ms:List Nat} {ops:Array Oper} {a0:Act} {w0:World} {Q:Exit → Act → World → Prop} {pds:List Pd} {σ:List (Nat × Value)} {N j:Nat} {dst:Option Tmp} {g:Option (Nat × Bool)}
  {t yt ty:TypeId} {x y:Operand} {pos:String} {af:Array Edge} {m n z:Int} {kd kk:IntKind} {s:Str}
theorem ZfV (hG:Good ops pds []) (hF:FrS N σ a0) (ht:P.underlying t = some .string) (ho:ops[j]? = some ⟨dst,.index t x y,ty,pos,af,g⟩) (hx:envP ops σ pds j x = some s.val) (hy:envP ops σ pds j y = some (.int kd n))
  (hz:gc ops pds ops.size j → sidx? s n = some z) (hpd:pds.getD j .any = .eq (.int .u8 z)):NPB P draw ms ops pds a0 w0 Q j:=
 Zco _ ho hG hF fun _ w _ hg hv _=>(ZbG rfl ht (hv x _ (by simp [Op.operands]) hx) (hv y _ (by simp [Op.operands]) hy) (hz hg)).mono fun v w' ⟨h1,h2⟩=>by
  subst h1; subst h2; rw [hpd]; exact ⟨rfl,Chg.refl _ _⟩
end
end Go.GL
end
section
namespace Go.GL
open Go.RowKit
section
variable {P:Program} {ops:Array Oper} {Q:Exit → Act → World → Prop} {a a0:Act} {w w0:World} {N:Nat} {σ:List (Nat × Value)} {k d j:Nat} {t ty:TypeId} {x y:Operand} {pos:String} {af:Array Edge} {α:Type} [Rep α] {b off:Nat} {bt:TypeId} {cs ps:List Value}
  {draw:Bool} {ms:List Nat} {pds:List Pd} {dst:Option Tmp} {g:Option (Nat × Bool)}
theorem Box.part (h:Box w b bt cs) (hp:(cs.drop off).take ps.length = ps):Cells w ⟨b,off,none⟩ ps:=fun j u hu=>by
 have e:(⟨b,off,none⟩ : Addr).add j = (⟨b,0,none⟩ : Addr).add (off + j):=by unfold Addr.add; split <;> simp_all
 rw [e]
 refine h.cells (off + j) u ?_
 rw [← hp] at hu
 rw [Zok] at hu
 split at hu
 ·rw [ZoC] at hu; exact hu
 ·cases hu
end
section
variable {P:Program} {draw:Bool} {ms:List Nat} {ops:Array Oper} {a0:Act} {w0:World} {Q:Exit → Act → World → Prop} {pds:List Pd} {σ:List (Nat × Value)} {N j:Nat} {dst:Option Tmp} {g:Option (Nat × Bool)}
  {t ty:TypeId} {x y:Operand} {pos:String} {af:Array Edge} {ow:Nat → Nat}
open Classical in
theorem Zfx:(Pd.is fun v (_:World)=>∃ b,v = .slice b 0 0).Mono Non:=fun _ _ _ h _=>h
section
open Go.Maps
variable {k e:TypeId} {κ β:Type} [Flat κ] [Flat β] [DecidableEq κ] (T:MapT P k e κ β)
end
end
end Go.GL
namespace Go.GL
open Go.RowKit
section
variable {P:Program} {ops:Array Oper} {Q:Exit → Act → World → Prop} {a:Act} {w:World} {N:Nat} {σ:List (Nat × Value)} {k d:Nat} {ty:TypeId} {x:Operand} {pos:String} {af:Array Edge} {f:FuncId} {xs:Array Operand} {ts:Array TypeId}
theorem ZhR {o:Oper} {R:Value → World → Prop} (caps:List Value) (ho:o.op = .call { callee:=.value x,args:=xs,argTypes:=ts }) (hx:a.eval x = .func (.func f) #[] caps.toArray)
  (hf:∀ (args:Array Value) (w:World),(callFunc f args).run P w = .ok (.enter f args) w) {args:List Value} (ha:xs.toList.map a.eval = args)
  (h:Calls P f (args ++ caps).toArray w fun e w'=>∃ v,e = .returned v ∧ R v w'):Does P o a w R:=by
 intro K Q hK
 obtain ⟨dst,op,type,pos,after,guard⟩:=o
 simp only at ho; subst ho
 have e:xs.map a.eval = args.toArray:=by rw [← ha]; cases xs; simp
 have hrun:(execOp a.eval { dst,op:=.call { callee:=.value x,args:=xs,argTypes:=ts },type,pos,after,guard }).run P w = .ok (.enter f (args ++ caps).toArray) w:=by
  simp only [execOp,resolve,hx,Deferred.ofValue,Sem.run_bind,Sem.run_pure,Result.andThen_ok,invoke,hf,e]
  simp [invoke,hf]
 unfold Oper.wp; rw [hrun]
 refine h.mono fun e w' he=>?_
 obtain ⟨v,rfl,hv⟩:=he
 exact hK v w' hv
end
end Go.GL
namespace Go.GL
open Go.RowKit
section
variable {P:Program} {draw:Bool} {ms:List Nat} {ops:Array Oper} {a0:Act} {w0:World} {Q:Exit → Act → World → Prop} {pds:List Pd} {σ:List (Nat × Value)} {N j:Nat} {dst:Option Tmp} {g:Option (Nat × Bool)}
  {t ty:TypeId} {pos:String} {af:Array Edge}
theorem Zkd {f:FuncId} {x:Operand} {xs:Array Operand} {ts:Array TypeId} (args caps:List Value) (hG:Good ops pds []) (hF:FrS N σ a0) (hf:∀ (args:Array Value) (w:World),(callFunc f args).run P w = .ok (.enter f args) w)
  (ho:ops[j]? = some ⟨dst,.call ⟨.value x,xs,ts⟩,ty,pos,af,g⟩) (hx:envP ops σ pds j x = some (.func (.func f) #[] caps.toArray)) (hargs:xs.toList.map (envP ops σ pds j) = args.map some)
  (hc:∀ w,Chg Non w0 w → gc ops pds ops.size j → Calls P f (args ++ caps).toArray w fun e w'=>∃ v,e = .returned v ∧ Chg Non w w' ∧ (pds.getD j .any).sat v w'):NPB P draw ms ops pds a0 w0 Q j:=
 Zco _ ho hG hF fun a w hC hg hv _=>by
  have h1:=ZgK (o:=⟨dst,.call ⟨.value x,xs,ts⟩,ty,pos,af,g⟩) (xs:=xs.toList) (fun y hy=>by simp [Op.operands,Call.operands]; exact .inr (by simpa using hy)) hv hargs
  have h2:=hv x _ (by simp [Op.operands,Call.operands]) hx
  exact ZhR caps rfl h2 hf h1 ((hc w hC hg).mono fun e w' ⟨v,he,h2,h3⟩=>⟨v,he,h3,h2⟩)
end
end Go.GL
end
section
namespace Go.GL
open Go.RowKit
structure Hd where
 a:Option Addr
 n:Nat
 c:Nat
def Hd.v (h:Hd):Value:=.slice h.a h.n h.c
instance:Rep Hd where
 sz:=1
 agg:=false
 ok:=fun _ _ cs x=>cs = [x.v]
 len:=by rintro w F cs x rfl; rfl
 one:=by rintro w F cs x rfl u hu; simp at hu; subst hu; rfl
 pos:=by decide
 sgl:=fun _=>rfl
 keep:=fun h _=>h
instance:Flat Hd where
 enc:=fun x=>[x.v]
 iff:=Iff.rfl
def HP.pure (p:Prop):HP:={ ok:=fun _ _=>p,mono:=fun h _=>h,keep:=fun h _ _=>h }
def HP.ex {ι:Type} (P:ι → HP):HP:={ ok:=fun w A=>∃ i,(P i).ok w A,mono:=fun ⟨i,h⟩ hA=>⟨i,(P i).mono h hA⟩,keep:=fun ⟨i,h⟩ hc hT=>⟨i,(P i).keep h hc hT⟩ }
def HP.two (P Q:HP):HP where
 ok w A:=∃ B C:Nat → Prop,P.ok w B ∧ Q.ok w C ∧ (∀ k,B k → C k → False) ∧ ∀ k,B k ∨ C k → A k
 mono:=fun {w A A'} ⟨B,C,h1,h2,h3,h4⟩ hA=>⟨fun k=>B k ∧ k < w.heap.size,fun k=>C k ∧ k < w.heap.size,P.mono h1 fun _ hk h=>⟨h,hk⟩,Q.mono h2 fun _ hk h=>⟨h,hk⟩,fun k h h'=>h3 k h.1 h'.1,fun k h=>h.elim (fun h=>hA k h.2 (h4 k (.inl h.1))) fun h=>hA k h.2 (h4 k (.inr h.1))⟩
 keep:=fun ⟨B,C,h1,h2,h3,h4⟩ hc hT=>⟨B,C,P.keep h1 hc fun k h=>hT k (h4 k (.inl h)),Q.keep h2 hc fun k h=>hT k (h4 k (.inr h)),h3,h4⟩
def HP.all {R α:Type} (own:R → α → HP):List R → List α → HP
 | [],[]=>.pure True
 | r :: rs,x :: xs=>.two (own r x) (HP.all own rs xs)
 | _,_=>.pure False
def HP.but {R α:Type} (own:R → α → HP) (i:Nat) (rs:List R) (xs:List α):HP:=.two (.all own (rs.take i) (xs.take i)) (.all own (rs.drop (i + 1)) (xs.drop (i + 1)))
section
variable {w:World} {A:Nat → Prop} {P Q P' Q':HP}
theorem HP.big {A':Nat → Prop} (h:P.ok w A) (hA:∀ k,A k → A' k):P.ok w A':=P.mono h fun k _=>hA k
theorem Zdc (h1:∀ A,P.ok w A → P'.ok w A) (h2:∀ A,Q.ok w A → Q'.ok w A) (h:(HP.two P Q).ok w A):(HP.two P' Q').ok w A:=by
 obtain ⟨B,C,a,b,c,d⟩:=h
 exact ⟨B,C,h1 B a,h2 C b,c,d⟩
theorem Zbk (h:(HP.two P Q).ok w A):(HP.two Q P).ok w A:=by
 obtain ⟨B,C,a,b,c,d⟩:=h
 exact ⟨C,B,b,a,fun k h h'=>c k h' h,fun k h=>d k h.symm⟩
theorem Zdp {R:HP} (h:(HP.two P (.two Q R)).ok w A):(HP.two (.two P Q) R).ok w A:=by
 obtain ⟨B,C,a,⟨D,E,b,c,d,e⟩,f,g⟩:=h
 exact ⟨fun k=>B k ∨ D k,E,⟨B,D,a,b,fun k h h'=>f k h (e k (.inl h')),fun _ h=>h⟩,c,fun k h h'=>h.elim (fun h=>f k h (e k (.inr h'))) fun h=>d k h h',fun k h=>g k (h.elim (fun h=>h.elim .inl fun h=>.inr (e k (.inl h))) fun h=>.inr (e k (.inr h)))⟩
theorem ZaP (h:(HP.two P Q).ok w A):P.ok w A:=by
 obtain ⟨B,C,a,b,c,d⟩:=h
 exact P.big a fun k hk=>d k (.inl hk)
theorem Zaz (h:(HP.two P Q).ok w A):Q.ok w A:=ZaP (Zbk h)
theorem Zcf (h:P.ok w A) (hq:Q.ok w Non):(HP.two P Q).ok w A:=⟨A,Non,h,hq,fun _ _ h=>h.elim,fun _ h=>h.elim id fun h=>h.elim⟩
theorem Zi4 (h:Q.ok w A) (hp:P.ok w Non):(HP.two P Q).ok w A:=Zbk (Zcf h hp)
variable {R α:Type} {own:R → α → HP} {rs rs':List R} {xs xs':List α}
theorem Za1 (h:(HP.all own rs xs).ok w A):rs.length = xs.length:=by
 induction rs generalizing xs A with
 | nil=>cases xs with
  | nil=>rfl
  | cons=>exact h.elim
 | cons r rs ih=>cases xs with
  | nil=>exact h.elim
  | cons x xs=>simp [ih (Zaz h)]
theorem all_append (h:(HP.two (.all own rs xs) (.all own rs' xs')).ok w A):(HP.all own (rs ++ rs') (xs ++ xs')).ok w A:=by
 induction rs generalizing xs A with
 | nil=>cases xs with
  | nil=>exact Zaz h
  | cons=>exact (ZaP h).elim
 | cons r rs ih=>cases xs with
  | nil=>exact (ZaP h).elim
  | cons x xs=>
   obtain ⟨B,C,⟨D,E,a,b,c,d⟩,e,f,g⟩:=h
   exact ⟨D,fun k=>E k ∨ C k,a,ih ⟨E,C,b,e,fun k h h'=>f k (d k (.inr h)) h',fun _ h=>h⟩,fun k h h'=>h'.elim (c k h) (f k (d k (.inl h))),fun k h=>g k (h.elim (fun h=>.inl (d k (.inl h))) fun h=>h.elim (fun h=>.inl (d k (.inr h))) .inr)⟩
theorem ZjD (n:Nat) (h:(HP.all own rs xs).ok w A):(HP.two (.all own (rs.take n) (xs.take n)) (.all own (rs.drop n) (xs.drop n))).ok w A:=by
 induction rs generalizing xs A n with
 | nil=>cases xs with
  | nil=>simp only [List.take_nil,List.drop_nil]; exact Zcf h trivial
  | cons=>exact h.elim
 | cons r rs ih=>cases xs with
  | nil=>exact h.elim
  | cons x xs=>
   cases n with
   | zero=>exact Zi4 h trivial
   | succ n=>
    obtain ⟨B,C,a,b,c,d⟩:=h
    exact Zdp ⟨B,C,a,ih n b,c,d⟩
theorem all_cons {r:R} {x:α}:HP.all own (r :: rs) (x :: xs) = .two (own r x) (.all own rs xs):=rfl
theorem Zcb {i:Nat} {r:R} {x:α} (h:(HP.all own rs xs).ok w A) (hr:rs[i]? = some r) (hx:xs[i]? = some x):(HP.two (own r x) (.but own i rs xs)).ok w A:=by
 have h1:=ZjD i h
 have e1:rs.drop i = r :: rs.drop (i + 1):=by
  have hl:=(Zn9.1 hr)
  rw [Zoj hl.1,hl.2]
 have e2:xs.drop i = x :: xs.drop (i + 1):=by
  have hl:=(Zn9.1 hx)
  rw [Zoj hl.1,hl.2]
 rw [e1,e2,all_cons] at h1
 have h2:=Zdp h1
 have h3:=Zdc (fun A h=>Zbk h) (fun A h=>h) h2
 obtain ⟨B,C,⟨D,E,a,b,c,d⟩,e,f,g⟩:=h3
 exact ⟨D,fun k=>E k ∨ C k,a,⟨E,C,b,e,fun k h h'=>f k (d k (.inr h)) h',fun _ h=>h⟩,fun k h h'=>h'.elim (c k h) (f k (d k (.inl h))),fun k h=>g k (h.elim (fun h=>.inl (d k (.inl h))) fun h=>h.elim (fun h=>.inl (d k (.inr h))) .inr)⟩
theorem Zgx {i:Nat} {r:R} {x:α} (hi:i < rs.length) (hi':i < xs.length) (h:(HP.two (own r x) (.but own i rs xs)).ok w A):(HP.all own (rs.set i r) (xs.set i x)).ok w A:=by
 have e1:rs.set i r = rs.take i ++ (r :: rs.drop (i + 1)):=by rw [Zqd,ZnC hi]
 have e2:xs.set i x = xs.take i ++ (x :: xs.drop (i + 1)):=by rw [Zqd,ZnC hi']
 rw [e1,e2]
 refine all_append ?_
 have h1:=Zdp h
 have h2:=Zdc (fun A h=>Zbk h) (fun A h=>h) h1
 obtain ⟨B,C,⟨D,E,a,b,c,d⟩,e,f,g⟩:=h2
 exact ⟨D,fun k=>E k ∨ C k,a,⟨E,C,b,e,fun k h h'=>f k (d k (.inr h)) h',fun _ h=>h⟩,fun k h h'=>h'.elim (c k h) (f k (d k (.inl h))),fun k h=>g k (h.elim (fun h=>.inl (d k (.inl h))) fun h=>h.elim (fun h=>.inl (d k (.inr h))) .inr)⟩
theorem ZlY {i:Nat} {r:R} {x:α} (hi:i < xs.length) (h:(HP.two (own r x) (.all own rs xs)).ok w A):(HP.all own (rs.set i r) (xs.set i x)).ok w A:=by
 have hl:=Za1 (Zaz h)
 refine Zgx (by omega) hi (Zdc (fun _ h=>h) (fun A h=>?_) h)
 obtain ⟨r0,hr0⟩ : ∃ r0,rs[i]? = some r0:=⟨rs[i],Zn5 (by omega)⟩
 obtain ⟨x0,hx0⟩ : ∃ x0,xs[i]? = some x0:=⟨xs[i],Zn5 hi⟩
 exact Zaz (Zcb h hr0 hx0)
theorem Za2 {i:Nat} {r:R} {x:α} (h:(HP.all own rs xs).ok w A) (hr:rs[i]? = some r) (hx:xs[i]? = some x):(own r x).ok w A:=ZaP (Zcb h hr hx)
theorem Zj3 {r:R} {x:α} (hr:∀ w,(own r x).ok w Non) (n:Nat) (w:World):(HP.all own (List.replicate n r) (List.replicate n x)).ok w Non:=by
 induction n with
 | zero=>trivial
 | succ n ih=>exact Zcf (hr w) ih
end
section
variable {w w0:World} {S S0 F F0:Nat → Prop} {L:List HP} {P Q R:HP}
theorem Sep.cons_ok (h:Sep (P :: L) w S):∃ A B,P.ok w A ∧ Sep L w B ∧ (∀ k,A k → B k → False) ∧ (∀ k,A k → S k) ∧ ∀ k,B k → S k:=by
 obtain ⟨A,B,h1,h2,h3,h4,h5⟩:=Sep.split (L1:=[P]) (L2:=L) h
 obtain ⟨C,g1,g2⟩:=h1.get 0 rfl
 exact ⟨C,B,g1,h2,fun k h h'=>h3 k (g2 k h) h',fun k h=>h4 k (g2 k h),h5⟩
theorem Sep.of_ok {A:Nat → Prop} (h:P.ok w A):Sep [P] w A:=⟨fun i k=>i = 0 ∧ A k,fun i Q hi=>by
  cases i with
  | zero=>simp at hi; subst hi; exact ⟨P.big h fun k hk=>⟨rfl,hk⟩,fun k hk=>hk.2⟩
  | succ i=>simp at hi,fun i j k hne hi hj=>hne (hi.1.trans hj.1.symm)⟩
theorem Sep.mk_cons {A B:Nat → Prop} (h1:P.ok w A) (h2:Sep L w B) (hd:∀ k,A k → B k → False) (hA:∀ k,A k → S k) (hB:∀ k,B k → S k):Sep (P :: L) w S:=
 Sep.join (L1:=[P]) (Sep.of_ok h1) h2 (fun k _=>hd k) (fun k _=>hA k) (fun k _=>hB k)
theorem Sep.imp (h:Sep (P :: L) w S) (hi:∀ A,P.ok w A → Q.ok w A):Sep (Q :: L) w S:=by
 obtain ⟨A,B,h1,h2,h3,h4,h5⟩:=h.cons_ok
 exact Sep.mk_cons (hi A h1) h2 h3 h4 h5
theorem Sep.emp (P:HP) (h:Sep L w S) (hp:P.ok w Non):Sep (P :: L) w S:=Sep.mk_cons hp h (fun _ h=>h.elim) (fun _ h=>h.elim) fun _ h=>h
theorem Sep.swap (h:Sep (P :: Q :: L) w S):Sep (Q :: P :: L) w S:=by
 obtain ⟨A,B,h1,h2,h3,h4,h5⟩:=h.cons_ok
 obtain ⟨C,D,g1,g2,g3,g4,g5⟩:=h2.cons_ok
 exact Sep.mk_cons (B:=fun k=>A k ∨ D k) g1 (Sep.mk_cons h1 g2 (fun k h h'=>h3 k h (g5 k h')) (fun _ h=>.inl h) fun _ h=>.inr h) (fun k h h'=>h'.elim (fun h'=>h3 k h' (g4 k h)) (g3 k h)) (fun k h=>h5 k (g4 k h)) fun k h=>h.elim (h4 k) fun h=>h5 k (g5 k h)
theorem Sep.under (h:Sep (P :: L) w S) {L':List HP} (hf:∀ A,Sep L w A → Sep L' w A):Sep (P :: L') w S:=by
 obtain ⟨A,B,h1,h2,h3,h4,h5⟩:=h.cons_ok
 exact Sep.mk_cons h1 (hf B h2) h3 h4 h5
theorem Sep.two (h:Sep (HP.two P Q :: L) w S):Sep (P :: Q :: L) w S:=by
 obtain ⟨A,B,⟨C,D,a,b,c,d⟩,h2,h3,h4,h5⟩:=h.cons_ok
 refine Sep.mk_cons (S:=S) (B:=fun k=>D k ∨ B k) a (Sep.mk_cons b h2 (fun k h h'=>h3 k (d k (.inr h)) h') (fun _ h=>.inl h) fun _ h=>.inr h) (fun k h h'=>h'.elim (c k h) (h3 k (d k (.inl h)))) (fun k h=>h4 k (d k (.inl h))) fun k h=>h.elim (fun h=>h4 k (d k (.inr h))) (h5 k)
theorem Sep.join2 (h:Sep (P :: Q :: L) w S):Sep (HP.two P Q :: L) w S:=by
 obtain ⟨A,B,h1,h2,h3,h4,h5⟩:=h.cons_ok
 obtain ⟨C,D,g1,g2,g3,g4,g5⟩:=h2.cons_ok
 exact Sep.mk_cons (A:=fun k=>A k ∨ C k) ⟨A,C,h1,g1,fun k h h'=>h3 k h (g4 k h'),fun _ h=>h⟩ g2 (fun k h h'=>h.elim (fun h=>h3 k h (g5 k h')) fun h=>g3 k h h') (fun k h=>h.elim (h4 k) fun h=>h5 k (g4 k h)) fun k h=>h5 k (g5 k h)
theorem Sep.merge (h:Sep (P :: Q :: L) w S) (hi:∀ A,(HP.two P Q).ok w A → R.ok w A):Sep (R :: L) w S:=h.join2.imp hi
theorem Sep.open {ι:Type} {P:ι → HP} (h:Sep (HP.ex P :: L) w S):∃ i,Sep (P i :: L) w S:=by
 obtain ⟨A,B,⟨i,h1⟩,h2,h3,h4,h5⟩:=h.cons_ok
 exact ⟨i,Sep.mk_cons h1 h2 h3 h4 h5⟩
theorem Sep.fact {p:Prop} (h:Sep (HP.pure p :: L) w S):p ∧ Sep L w S:=by
 obtain ⟨A,B,h1,h2,h3,h4,h5⟩:=h.cons_ok
 exact ⟨h1,h2.mono fun k _=>h5 k⟩
end
section
variable {w:World} {A:Nat → Prop} {R α:Type} [Flat R] {own:R → α → HP} {E:TypeId} {v:Value} {rs:List R} {xs:List α}
theorem ZkT (h:(HP.two (SL E v rs) (.all own rs xs)).ok w A):∃ a c,v = .slice a xs.length c:=by
 obtain ⟨B,C,h1,h2,h3,h4⟩:=h
 rw [← Za1 h2]
 rcases h1 with ⟨go,h1⟩ | ⟨rfl,a,rfl⟩
 ·exact h1.slice
 ·exact ⟨a,0,rfl⟩
end
section
variable {w:World} {S:Nat → Prop} {L:List HP} {R α:Type} {own:R → α → HP} {rs:List R} {xs:List α}
theorem Sep.dlen (j:Nat) (h:Sep L w S) (hj:L[j]? = some (.all own rs xs)):rs.length = xs.length:=by
 obtain ⟨A,h1,_⟩:=h.get j hj
 exact Za1 h1
end
section
variable {w:World} {A:Nat → Prop} {R α:Type} [Flat R] [Rep α] {own:R → α → HP} {E:TypeId} {v:Value} {rs:List R} {xs:List α}
structure Owns (own:R → α → HP):Prop where
 sz:Rep.sz R = Rep.sz α
 agg:Rep.agg R = Rep.agg α
 rv:∀ w A r x,(own r x).ok w A → Rep.ok w A (Flat.enc r) x
theorem Zf9 (ho:Owns own) (h:(HP.two (SL E v rs) (.all own rs xs)).ok w A):RV w A v xs:=by
 obtain ⟨B,C,h1,h2,h3,h4⟩:=h
 have hl:=Za1 h2
 rcases h1 with ⟨go,h1⟩ | ⟨rfl,a,rfl⟩
 ·obtain ⟨F, css, g1, g2, g3, g4, g5⟩ := h1
  have hcss:Css w C css xs:=⟨g1.1.trans hl,fun i cs x hcs hx=>by
   have hlt:i < rs.length:=by rw [hl]; exact (Zn9.1 hx).1
   have:=g1.2 i cs rs[i] hcs (Zn5 hlt)
   rw [Flat.iff.1 this]
   exact ho.rv w C _ x (Za2 h2 (Zn5 hlt) hx)⟩
  have hcb:Css w (fun k=>C k ∧ k < w.heap.size) css xs:=hcss.keep fun k hk hc=>⟨rfl,hc,hk⟩
  have:OwnS w E go B C v xs:=⟨fun k=>C k ∧ k < w.heap.size,css,hcb,by rw [← ho.sz,← hl]; exact g2,g3,fun g hg=>⟨(g4 g hg).1,fun hc=>h3 g (g4 g hg).1 hc.1⟩,fun k hk=>hk⟩
  exact this.rv.sub fun k _ hk=>hk.elim (fun hk=>h4 k (.inl hk.2)) fun hk=>h4 k (.inr hk)
 ·have : xs = [] := ZoJ hl.symm
  subst this
  exact RV.mk_slice (l:=([]:List α)) (ZnK _) (ZoW _) fun h=>absurd rfl h
end
end Go.GL
namespace Go.GL
open Go.RowKit
theorem mk?_raw {α β:Type} {n:Int} {z:α} {z':β} {r:List α} (h:mk? n z = some r):mk? n z' = some (List.replicate r.length z') ∧ r = List.replicate r.length z:=by
 unfold mk? at *
 split at h
 ·rename_i hc
  simp only [Option.some.injEq] at h
  subst h
  rw [ZnC hc]
  simp
 ·cases h
theorem app?_raw {α β:Type} {l m r:List α} {l' m':List β} (h:app? l m = some r) (hl:l'.length = l.length) (hm:m'.length = m.length):app? l' m' = some (l' ++ m') ∧ r = l ++ m:=by
 unfold app? at *
 split at h
 ·rename_i hc
  simp only [Option.some.injEq] at h
  rw [ZnC (by omega)]
  exact ⟨rfl,h.symm⟩
 ·cases h
theorem set?_raw {α β:Type} {l r:List α} {l':List β} {i:Int} {x:α} (y:β) (h:set? l i x = some r) (hl:l'.length = l.length):set? l' i y = some (l'.set i.toNat y) ∧ r = l.set i.toNat x ∧ i.toNat < l.length:=by
 unfold set? at *
 split at h
 ·rename_i hc
  simp only [Option.some.injEq] at h
  rw [ZnC (by omega)]
  exact ⟨rfl,h.symm,hc.2⟩
 ·cases h
section
variable {w:World} {S:Nat → Prop} {L:List HP} {R α:Type} {own:R → α → HP} {rs:List R} {xs:List α}
theorem Sep.fill {n:Int} {r:R} {z:α} {ys:List α} (hs:Sep (own r z :: HP.but own n.toNat rs xs :: L) w S) (hl:rs.length = xs.length) (hr:rs[n.toNat]? = some r) (hz:set? xs n z = some ys):Sep (HP.all own rs ys :: L) w S:=by
 obtain ⟨_,h2,h3⟩:=set?_raw (l':=xs) z hz rfl
 have e:rs.set n.toNat r = rs:=by
  rw [Zn9] at hr
  obtain ⟨h,rfl⟩:=hr
  exact List.set_getElem_self h
 have:=hs.merge fun A h=>Zgx (by omega) h3 h
 rw [e,← h2] at this
 exact this
end
section
variable {P:Program} {ops:Array Oper} {Q:Exit → Act → World → Prop} {a:Act} {w w0:World} {S S0 F F0:Nat → Prop} {N:Nat} {σ:List (Nat × Value)} {k d:Nat} {t ty:TypeId} {x:Operand} {pos:String} {af:Array Edge}
  {L:List HP} {R α:Type} [Flat R] {own:R → α → HP} {E:TypeId}
end
section
variable {P:Program} {ops:Array Oper} {Q:Exit → Act → World → Prop} {a:Act} {w w0:World} {S S0 F F0:Nat → Prop} {N:Nat} {σ:List (Nat × Value)} {k d d':Nat} {t ty:TypeId} {x y:Operand} {pos:String} {af:Array Edge}
  {L:List HP} {R α:Type} [Flat R] {own:R → α → HP} {E:TypeId} {v u:Value} {rs rs2:List R} {xs ms:List α}
theorem Sep.relenD {b:Option Addr} {n c:Nat} (i j:Nat) (h:Sep L w S) (hi:L[i]? = some (SL E (.slice b n c) rs)) (hj:L[j]? = some (HP.all own rs xs)):n = xs.length ∧ Sep (L.set i (SL E (.slice b xs.length c) rs)) w S:=by
 have h1:=h.relen i hi
 have h2:=h.dlen j hj
 rw [h2] at h1
 exact h1
theorem Sep.freezeD [Rep α] (ho:Owns own) {F:Nat → Prop} (h:Sep (SL E v rs :: HP.all own rs xs :: L) w S) (hM:Mem w0 S0 F0 w S F):∃ S' F',Mem w0 S0 F0 w S' F' ∧ Sep L w S' ∧ RV w F' v xs ∧ ∀ k,F k → F' k:=by
 obtain ⟨S',F',a,b,c,d⟩:=Sep.freeze h.join2 hM
 exact ⟨S',F',a,b,Zf9 ho c,d⟩
end
end Go.GL
namespace Go.GL
open Go.RowKit
structure VW (sz:Nat) (b:Option Addr) (c:Nat) (lo:Int) (a':Option Addr) (c':Nat):Prop where
 nn:0 ≤ lo
 addr:a' = (if c = lo.toNat then b else b.map (·.add (lo.toNat * sz)))
 cap:c' = c - lo.toNat
section
variable {P:Program} {ops:Array Oper} {Q:Exit → Act → World → Prop} {a:Act} {w w0:World} {S S0 F F0:Nat → Prop} {N:Nat} {σ:List (Nat × Value)} {k d d':Nat} {t ty:TypeId} {x y:Operand} {pos:String} {af:Array Edge}
  {L:List HP} {E:TypeId}
theorem Zlc {α:Type} [Rep α] {lo hi:Option Operand} {b:Option Addr} {n0 c:Nat} {l r:List α} {m n:Int} (he:Ty P E α) (ht:P.underlying t = some (.slice E)) (ho:ops[k]? = some ⟨some d,.slice t x lo hi none,ty,pos,af,none⟩) (hd:Nat.blt d N = true) (hF:FrS N σ a)
  (hx:opd σ x = some (.slice b n0 c)) (hl:RV w F (.slice b n0 c) l) (hlo:match lo with | none=>m = 0 | some y=>∃ k,opd σ y = some (.int k m)) (hhi:match hi with | none=>n = (l.length:Int) | some y=>∃ k,opd σ y = some (.int k n)) (hr:cut? l m n = some r)
  (h:∀ a' c' fr,VW (Rep.sz α) b c m a' c' → m.toNat + r.length ≤ l.length → FrS N ((d,.slice a' (List.length r) c') :: σ) fr → wpFrom P ops Q (k + 1) fr w):wpFrom P ops Q k a w:=by
 have hr':=hr
 unfold cut? at hr
 split at hr
 ·rename_i hb
  obtain ⟨h0,h1,h2⟩:=hb
  simp only [Option.some.injEq] at hr
  have hlen:r.length = n.toNat - m.toNat:=by
   rw [← hr,Zoe,ZnF]; omega
  obtain ⟨b',cap,hv,hc1,hc2,hc3⟩:=hl.slice
  simp only [Value.slice.injEq] at hv
  obtain ⟨rfl,rfl,rfl⟩:=hv
  refine Zz hF ho rfl rfl (Zon.mp hd) (R:=fun v w'=>v = .slice (if c = m.toNat then b else b.map (·.add (m.toNat * Rep.sz α))) (n.toNat - m.toNat) (c - m.toNat) ∧ w' = w) (Zh ?_ ⟨rfl,rfl⟩) fun v w' fr hv hF'=>?_
  ·have hn2 : n ≤ (c : Int) := by omega
   cases lo with
   | none=>
    simp only at hlo; subst hlo
    cases hi with
    | none=>
     simp only at hhi; subst hhi
     simp [execOp,Instr.sliceAt,Instr.slice,Instr.sliceBounds,Zd hF hx,run_underlying ht,he.sizeOf]
    | some y=>
     obtain ⟨kk,hy⟩:=hhi
     simp [execOp,Instr.sliceAt,Instr.slice,Instr.sliceBounds,Instr.sliceBound,asIntOf,Zd hF hx,Zd hF hy,run_underlying ht,he.sizeOf,h1,hn2]
   | some z=>
    obtain ⟨kz,hz⟩:=hlo
    cases hi with
    | none=>
     simp only at hhi; subst hhi
     simp [execOp,Instr.sliceAt,Instr.slice,Instr.sliceBounds,Instr.sliceBound,asIntOf,Zd hF hx,Zd hF hz,run_underlying ht,he.sizeOf,h0,h1]
    | some y=>
     obtain ⟨kk,hy⟩:=hhi
     have h01:0 ≤ n:=by omega
     simp [execOp,Instr.sliceAt,Instr.slice,Instr.sliceBounds,Instr.sliceBound,asIntOf,Zd hF hx,Zd hF hy,Zd hF hz,run_underlying ht,he.sizeOf,h0,h01,hn2]
     try omega
  ·obtain ⟨rfl, rfl⟩ := hv
   exact h _ _ fr ⟨h0,rfl,rfl⟩ (by omega) (by rw [hlen]; exact hF')
 ·cases hr
end
end Go.GL
end
section
namespace Go.GL
open Go.RowKit
section
variable {w:World} {F:Nat → Prop} {α:Type} [Rep α] {b a':Option Addr} {n0 c c':Nat} {lo:Int} {l:List α} {n:Nat}
theorem Zik (h:RV w F (.slice b n0 c) l) (hv:VW (Rep.sz α) b c lo a' c') (hn:lo.toNat + n ≤ l.length):RV w F (.slice a' n c') (vcut l lo n):=by
 obtain ⟨b',cap,he,hc1,hc2,hc3⟩:=h.slice
 simp only [Value.slice.injEq] at he
 obtain ⟨rfl,rfl,rfl⟩:=he
 obtain ⟨h0,rfl,rfl⟩:=hv
 have hlen:(vcut l lo n).length = n:=by unfold vcut; rw [ZnF,Zoe]; omega
 have e:vcut l lo n = (l.take (lo.toNat + n)).drop lo.toNat:=by
  unfold vcut; rw [ZqC]; congr 1; omega
 have key:RV w F (.slice (if c = lo.toNat then b else b.map (·.add (lo.toNat * Rep.sz α))) (vcut l lo n).length (c - lo.toNat)) (vcut l lo n):=by
  refine RV.mk_slice (by omega) (by omega) fun hne=>?_
  have hpos:0 < n:=by
   rcases Nat.eq_zero_or_pos n with h | h
   ·subst h; exact absurd (by simp [vcut]) hne
   ·exact h
  have hlne:l ≠ []:=by rintro rfl; simp at hn; omega
  obtain ⟨ad,rfl,hF,hel⟩:=hc3 hlne
  rw [ZnA (by omega)]
  refine ⟨ad.add (lo.toNat * Rep.sz α),rfl,by rw [add_block]; exact hF,?_⟩
  rw [e]
  exact Zfh hel _ _
 rw [hlen] at key
 exact key
end
theorem ZbS {css:List (List Value)} {s:Nat} (h:∀ c ∈ css,c.length = s) (p:Nat) (hp:p ≤ css.length):(css.take p).flatten = css.flatten.take (p * s) ∧ (css.drop p).flatten = css.flatten.drop (p * s) ∧ (css.take p).flatten.length = p * s:=by
 have key:∀ (css:List (List Value)),(∀ c ∈ css,c.length = s) → css.flatten.length = css.length * s:=by
  intro css
  induction css with
  | nil=>simp
  | cons c css ih=>
   intro hh
   simp only [ZoP,ZnD,ZnL]
   rw [hh c ZnR,ih fun c hc=>hh c (ZnZ _ hc),Zpn]; omega
 have hl:(css.take p).flatten.length = p * s:=by
  rw [key _ fun c hc=>h c (ZoV hc),ZnF,Zop hp]
 have e:css.flatten = (css.take p).flatten ++ (css.drop p).flatten:=by rw [← ZpC,Zo0]
 exact ⟨by rw [e,← hl,List.take_left],by rw [e,← hl,List.drop_left],hl⟩
theorem Zlo {cur cs:List Value} {a n:Nat} (h1:a + cs.length ≤ n) (h2:n ≤ cur.length):(cur.take a ++ cs ++ cur.drop (a + cs.length)).take n = (cur.take n).take a ++ cs ++ (cur.take n).drop (a + cs.length):=by
 apply Zo8
 intro i
 simp only [Zok,Zp0,ZnD,ZnF,ZoC]
 grind
section
variable {P:Program} {α:Type} [Flat α] {w:World} {E:TypeId} {go:Option Nat} {G:Nat → Prop} {v:Value} {l:List α}
theorem OwnS.put_run (h:OwnS w E go G Non v l) {p:Nat} {m:List α} (hm:m ≠ []) (hp:p + m.length ≤ l.length) :
  ∃ g w',go = some g ∧ (∃ c,v = .slice (some ⟨g,0,none⟩) l.length c) ∧ (storeCells ((⟨g,0,none⟩ : Addr).add (p * Rep.sz α)) (m.map Flat.enc).flatten).run P w = .ok () w' ∧ OwnS w' E go G Non v (l.take p ++ m ++ l.drop (p + m.length)) ∧ Chg (fun k=>go = some k) w w':=by
 obtain ⟨F,css,h1,h2,h3,h4,h5⟩:=h
 have hpos:0 < m.length:=by
  cases m with
  | nil=>exact absurd rfl hm
  | cons=>simp
 rcases h2.2 with ⟨rfl,hz⟩ | ⟨g,cap,cur,rfl,hb,hg,hnc,hcm,hcs,htake⟩
 ·omega
 have hgo:go = some g:=by rw [← h3]; rfl
 have hcss:css = l.map Flat.enc:=by
  apply Zo8
  intro i
  rw [ZnW]
  by_cases hi:i < l.length
  ·have hi' : i < css.length := by rw [h1.1]; exact hi
   rw [Zn5 hi,Zn5 hi']
   exact congrArg some (Flat.iff.1 (h1.2 i css[i] l[i] (Zn5 hi') (Zn5 hi)))
  ·rw [ZnT (by rw [h1.1]; omega),ZnT (by omega)]; rfl
 subst hcss
 have hlen:∀ (x:List α),∀ c ∈ x.map Flat.enc,c.length = Rep.sz α:=fun x c hc=>by
  obtain ⟨y,_,rfl⟩:=ZoB.1 hc
  exact Rep.len (Flat.iff (w:=w) (F:=Non).2 rfl)
 have hone:∀ z ∈ (m.map Flat.enc).flatten,z.oneCell' = true:=fun z hz=>by
  obtain ⟨c,hc,hzc⟩:=List.mem_flatten.1 hz
  obtain ⟨y,_,rfl⟩:=ZoB.1 hc
  exact Rep.one (Flat.iff (w:=w) (F:=Non).2 rfl) z hzc
 have hml:(m.map Flat.enc).flatten.length = m.length * Rep.sz α:=by
  have:=(ZbS (hlen m) m.length (by simp)).2.2
  rw [Zov (by simp)] at this
  exact this
 have hcap:l.length * Rep.sz α ≤ cap * Rep.sz α:=Zpa _ hnc
 have hoff:p * Rep.sz α + m.length * Rep.sz α ≤ l.length * Rep.sz α:=by
  rw [← Zpn]; exact Zpa _ hp
 have hrun:=run_storeCells_at (P:=P) g (p * Rep.sz α) E (m.map Flat.enc).flatten 0 cur w hg (by rw [hml,hcs]; omega) hone
 simp only [ZoQ] at hrun
 have haddr:(⟨g,0,none⟩ : Addr).add (p * Rep.sz α) = ⟨g,p * Rep.sz α,none⟩:=by unfold Addr.add; split <;> simp_all
 refine ⟨g,w.setRow g (cur.toList.take (p * Rep.sz α) ++ (m.map Flat.enc).flatten ++ cur.toList.drop (p * Rep.sz α + (m.map Flat.enc).flatten.length)).toArray,hgo,⟨cap,rfl⟩,by rw [haddr]; exact hrun,?_,⟨rfl,rfl,rfl,by simp,fun k _ hn=>setRow_other w g k _ fun e=>hn (by rw [hgo,e])⟩⟩
 have hll:(l.take p ++ m ++ l.drop (p + m.length)).length = l.length:=by simp; omega
 refine ⟨Non,(l.take p ++ m ++ l.drop (p + m.length)).map Flat.enc,Zbn _,⟨?_,.inr ⟨g,cap,_,by rw [hll],hb,setRow_heap w g cur _ E _ hg,by rw [hll]; exact hnc,hcm,?_,?_⟩⟩,h3,fun g' hg'=>⟨(h4 g' hg').1,id⟩,fun _ h=>h.elim⟩
 ·have := (ZbS (hlen (l.take p ++ m ++ l.drop (p + m.length))) (l.take p ++ m ++ l.drop (p + m.length)).length (by simp)).2.2
  rw [Zov (by simp)] at this
  exact this
 ·simp only [Zqo, ZnD, ZnF, Zoe, ZoE]
  rw [hcs,hml]; omega
 ·rw [hll]
  have hcl:cur.toList.length = cap * Rep.sz α:=by simpa using hcs
  simp only
  rw [Zlo (by rw [hml]; exact hoff) (by rw [hcl]; exact hcap),htake,Zo2,Zo2,ZpC,ZpC,Zp5,ZqI,(ZbS (hlen l) p (by simp; omega)).1,(ZbS (hlen l) (p + m.length) (by simp; omega)).2.1,hml,← Zpn]
end
section
variable {P:Program} {ops:Array Oper} {Q:Exit → Act → World → Prop} {a:Act} {w w0:World} {S S0 F F0:Nat → Prop} {N:Nat} {σ:List (Nat × Value)} {k d:Nat} {t ty:TypeId} {x y:Operand} {pos:String} {af:Array Edge}
  {L:List HP} {E:TypeId} {α:Type} [Flat α] {l m:List α} {b a':Option Addr} {n0 c c' n:Nat} {lo:Int} {u:Value}
theorem ZlI {t':TypeId} {Fr:Nat → Prop} (i:Nat) (hs:Sep L w S) (hM:Mem w0 S0 F0 w S F) (hL:L[i]? = some (SL E (.slice b n0 c) l)) (ht:P.underlying t = some (.slice E)) (hE:Ty P E α)
  (hop:ops[k]? = some ⟨some d,.call ⟨.builtin .copy,#[x,y],#[t,t']⟩,ty,pos,af,none⟩) (hd:Nat.blt d N = true) (hF:FrS N σ a) (hx:opd σ x = some (.slice a' n c')) (hy:opd σ y = some u) (hu:RV w Fr u m)
  (hv:VW (Rep.sz α) b c lo a' c') (hn:lo.toNat + n ≤ l.length)
  (h:∀ w' S' fr q,Sep (L.set i (SL E (.slice b n0 c) (vcopy l lo n m))) w' S' → Stp w S w' S' → FrS N ((d,q) :: σ) fr → wpFrom P ops Q (k + 1) fr w'):wpFrom P ops Q k a w:=by
 obtain ⟨A,hok,hup⟩:=hs.upd i hL hM
 obtain ⟨ad,cap,rfl,hcap,hmax,hcells⟩:=hu.slice
 by_cases hm:m.take n = []
 ·
  have e:vcopy l lo n m = l:=by
   unfold vcopy; rw [hm]; simp
  have hz:Nat.min m.length n = 0:=by
   have:=congrArg List.length hm
   simp at this
   show min m.length n = 0
   rcases this with h | h <;> simp [h]
  obtain ⟨S',hp,hs'⟩:=hup (w':=w) (P':=SL E (.slice b n0 c) (vcopy l lo n m)) (Chg.refl _ _) (by rw [e]; exact HP.mono _ hok fun k _ hk=>.inl hk)
  refine Zz hF hop rfl rfl (Zon.mp hd) (R:=fun _ w'=>w' = w) (Zh (v:=goInt 0) (w':=w) ?_ rfl) fun v w1 fr hw hF'=>by subst hw; exact h _ S' fr v hs' hp hF'
  have e1:(min m.length n) = 0:=hz
  cases ad with
  | none=>cases a' <;> simp [execOp,resolve,invoke,builtin,Builtin.copy_,Zd hF hx,Zd hF hy,run_underlying ht,Builtin.lenOf,Builtin.firstCells,hE.sizeOf,e1,storeCells]
  | some ad=>cases a' <;> simp [execOp,resolve,invoke,builtin,Builtin.copy_,Zd hF hx,Zd hF hy,run_underlying ht,Builtin.lenOf,Builtin.firstCells,hE.sizeOf,e1,storeCells,loadCells,loadCellsFrom]
 ·have hpos:0 < (m.take n).length:=by
   cases hh:m.take n with
   | nil=>exact absurd hh hm
   | cons=>simp
  have hml:(m.take n).length = min m.length n:=by rw [ZnF]; omega
  rcases hok with ⟨go,ho⟩ | ⟨rfl,q,hq⟩
  ·obtain ⟨g, w', hgo, ⟨c2, hv2⟩, hrun, ho', hc⟩ := ho.put_run (P := P) (p := lo.toNat) (m := m.take n) hm (by rw [ZnF]; omega)
   simp only [Value.slice.injEq] at hv2
   obtain ⟨rfl,rfl,rfl⟩:=hv2
   have hca:c ≠ lo.toNat:=by
    obtain ⟨_,cap',he',hl',_⟩:=ho.rv.slice
    simp only [Value.slice.injEq] at he'
    obtain ⟨_,_,rfl⟩:=he'
    rw [ZnF] at hpos
    omega
   have ha':a' = some ((⟨g,0,none⟩ : Addr).add (lo.toNat * Rep.sz α)):=by rw [hv.addr,ZnA hca]; rfl
   have hmne:m ≠ []:=by rintro rfl; simp at hm
   obtain ⟨ad,rfl,_,hel⟩:=hcells hmne
   obtain ⟨css,g1,g2⟩:=Za4 hel
   have hcss:css = m.map Flat.enc:=by
    apply Zo8
    intro i
    rw [ZnW]
    by_cases hi:i < m.length
    ·have hi' : i < css.length := by rw [g1.1]; exact hi
     rw [Zn5 hi,Zn5 hi']
     exact congrArg some (Flat.iff.1 (g1.2 i css[i] m[i] (Zn5 hi') (Zn5 hi)))
    ·rw [ZnT (by rw [g1.1]; omega),ZnT (by omega)]; rfl
   subst hcss
   have hlen:∀ c ∈ m.map Flat.enc,c.length = Rep.sz α:=fun c hc=>by
    obtain ⟨y,_,rfl⟩:=ZoB.1 hc
    exact Rep.len (Flat.iff (w:=w) (F:=Non).2 rfl)
   have hfc:=ZbS hlen (min m.length n) (by simp; omega)
   have hmt:m.take n = m.take (min m.length n):=by
    rw [List.take_eq_take_iff]; omega
   have hcl:((m.take n).map Flat.enc).flatten = (m.map Flat.enc).flatten.take (min m.length n * Rep.sz α):=by rw [hmt,Zp5,hfc.1]
   have hll:(((m.take n).map Flat.enc).flatten).length = min m.length n * Rep.sz α:=by rw [hmt,Zp5,hfc.2.2]
   have hload:(loadCells ad (min m.length n * Rep.sz α)).run P w = .ok (((m.take n).map Flat.enc).flatten).toArray w:=by
    rw [← hll]
    refine run_loadCells_list w ad _ fun j v hj=>?_
    rw [hcl,Zok] at hj
    split at hj
    ·simpa using g2 j v hj
    ·cases hj
   obtain ⟨S',hp,hs'⟩:=hup (w':=w') (P':=SL E (.slice (some ⟨g,0,none⟩) l.length c) (vcopy l lo n m)) (hc.mono fun k hk=>ho.inG hk) (.inl ⟨go,ho'.regard fun k _ hk=>.inl hk⟩)
   refine Zz hF hop rfl rfl (Zon.mp hd) (R:=fun _ w1=>w1 = w') (Zh (v:=goInt ((Nat.min m.length n:Nat):Int)) (w':=w') ?_ rfl) fun v w1 fr hw hF'=>by subst hw; exact h _ S' fr v hs' hp hF'
   subst ha'
   have e1:Nat.min m.length n = min m.length n:=rfl
   rw [Zp5] at hrun hload
   simp [execOp,resolve,invoke,builtin,Builtin.copy_,Zd hF hx,Zd hF hy,run_underlying ht,Builtin.lenOf,Builtin.firstCells,hE.sizeOf,hload,hrun]
  ·simp only [Value.slice.injEq] at hq
   exfalso
   rw [ZnF] at hpos
   simp at hn; omega
end
end Go.GL
namespace Go.GL
open Go.RowKit
section
variable {P:Program} {ops:Array Oper} {Q:Exit → Act → World → Prop} {a:Act} {w w0:World} {S S0 F F0:Nat → Prop} {N:Nat} {σ:List (Nat × Value)} {k:Nat} {t ty:TypeId} {x:Operand} {pos:String} {af:Array Edge}
  {L:List HP} {E:TypeId} {α:Type} [Flat α] {l:List α} {b a':Option Addr} {n0 c c' n:Nat} {lo:Int}
end
end Go.GL
end
section
namespace Go.GL
open Go.RowKit
theorem Sep.swapT {w:World} {S:Nat → Prop} {L:List HP} {Q Q':HP} (i:Nat) (h:Sep L w S) (hi:L[i]? = some Q) (f:∀ A,Q.ok w A → Q'.ok w A):Sep (L.set i Q') w S:=by
 obtain ⟨g,h1,h2⟩:=h
 refine ⟨g,fun j R hj=>?_,h2⟩
 rw [ZoU] at hj
 by_cases e:i = j
 ·subst e
  have hlt:i < L.length:=(Zn9.1 hi).1
  simp only [ZnV,hlt,Option.some.injEq] at hj
  subst hj
  exact ⟨f _ (h1 i Q hi).1,(h1 i Q hi).2⟩
 ·rw [ZnA e] at hj
  exact h1 j R hj
def TL (E:TypeId) (v:Value) (l:List Int):HP where
 ok w A:=(∃ g c lo a' c' base,OwnS w E (some g) A Non (.slice (some ⟨g,0,none⟩) base.length c) base ∧ VW 1 (some ⟨g,0,none⟩) c lo a' c' ∧ lo.toNat + l.length = base.length ∧ l = base.drop lo.toNat ∧ v = .slice a' l.length c') ∨ (l = [] ∧ ∃ a,v = .slice a 0 0)
 mono:=fun h hA=>by
  rcases h with ⟨g,c,lo,a',c',base,h,r⟩ | h
  ·exact .inl ⟨g,c,lo,a',c',base,h.regard hA,r⟩
  ·exact .inr h
 keep:=fun h hc hT=>by
  rcases h with ⟨g,c,lo,a',c',base,h,r⟩ | h
  ·exact .inl ⟨g,c,lo,a',c',base,h.chg hc (fun k _ hk=>hT k hk) (fun _ h=>h.elim),r⟩
  ·exact .inr h
theorem VW.zero {b:Option Addr} {c:Nat}:VW 1 b c 0 b c:=by
 refine ⟨ZoD _,?_,by simp⟩
 cases b with
 | none=>simp
 | some ad=>simp [Addr.add]
theorem ZiE {E:TypeId} {v:Value} {l:List Int} {w:World} {A:Nat → Prop} (h:(SL E v l).ok w A):(TL E v l).ok w A:=by
 rcases h with ⟨go,h⟩ | h
 ·have h' := h
  obtain ⟨F,css,h1,h2,h3,h4,h5⟩:=h'
  rcases h2.2 with ⟨hn,hz⟩ | ⟨g,cap,cur,hv,rest⟩
  ·exact .inr ⟨ZoJ hz,_,hn⟩
  ·subst hv
   have hgo:go = some g:=by rw [← h3]; rfl
   subst hgo
   exact .inl ⟨g,cap,0,_,cap,l,h,VW.zero,by simp,by simp,rfl⟩
 ·exact .inr h
theorem Sep.toT {w:World} {S:Nat → Prop} {L:List HP} {E:TypeId} {v:Value} {l:List Int} (i:Nat) (h:Sep L w S) (hi:L[i]? = some (SL E v l)):Sep (L.set i (TL E v l)) w S:=h.swapT i hi fun _=>ZiE
theorem Zfm {E:TypeId} {v:Value} {l:List Int} {w:World} {A:Nat → Prop} (h:(TL E v l).ok w A):RV w A v l:=by
 rcases h with ⟨g,c,lo,a',c',base,h1,h2,h3,h4,rfl⟩ | ⟨rfl,a,rfl⟩
 ·have hr := h1.rv.sub (F' := A) fun k _ hk => hk.elim (fun hk => hk.2) fun hk => hk.elim
  have:=Zik (n:=l.length) hr h2 (by omega)
  have e:vcut base lo l.length = l:=by
   unfold vcut
   rw [← h4]
   exact Zou
  rw [e] at this
  exact this
 ·exact RV.mk_slice (l:=([]:List Int)) (ZnK _) (ZoW _) fun h=>absurd rfl h
theorem ZmF {E:TypeId} {w:World} {A:Nat → Prop} {b a':Option Addr} {n c c':Nat} {l r:List Int} {m:Int} (h:(TL E (.slice b n c) l).ok w A) (hv:VW 1 b c m a' c') (hm:m.toNat + r.length = l.length) (hr:r = l.drop m.toNat):(TL E (.slice a' r.length c') r).ok w A:=by
 obtain ⟨h0,hadd,hcap⟩:=hv
 by_cases e:c = m.toNat
 ·
  have hrn:r.length = 0:=by
   rcases h with ⟨g,c0,lo,a0,c1,base,h1,h2,h3,h4,h5⟩ | ⟨rfl,a,h5⟩
   ·simp only [Value.slice.injEq] at h5
    obtain ⟨rfl,rfl,rfl⟩:=h5
    have hb:=h1.rv.slice
    obtain ⟨_,cc,hq,hle,_⟩:=hb
    simp only [Value.slice.injEq] at hq
    obtain ⟨_,_,rfl⟩:=hq
    have:=h2.cap
    omega
   ·rw [Zom] at hm; omega
  have:r = []:=ZoJ hrn
  subst this
  exact .inr ⟨rfl,a',by simp [hcap,e]⟩
 ·rcases h with ⟨g, c0, lo, a0, c1, base, h1, h2, h3, h4, h5⟩ | ⟨rfl, a, h5⟩
  ·simp only [Value.slice.injEq] at h5
   obtain ⟨rfl,rfl,rfl⟩:=h5
   obtain ⟨k0,kadd,kcap⟩:=h2
   have hlo:(lo + m).toNat = lo.toNat + m.toNat:=by omega
   refine .inl ⟨g,c0,lo + m,a',c',base,h1,⟨by omega,?_,by omega⟩,by omega,by rw [hr,h4,ZqD,hlo],rfl⟩
   rw [ZnA e] at hadd
   rw [hadd,kadd]
   by_cases e2:c0 = lo.toNat
   ·
    have:c = 0:=by omega
    obtain ⟨_,cc,hq,hle,_⟩:=h1.rv.slice
    simp only [Value.slice.injEq] at hq
    obtain ⟨_,_,rfl⟩:=hq
    have hm0:m.toNat = 0:=by
     have:l.length = 0:=by omega
     omega
    exact absurd (by omega) e
   ·rw [ZnA e2]
    obtain ⟨_,cc,hq,hle,_⟩:=h1.rv.slice
    simp only [Value.slice.injEq] at hq
    obtain ⟨_,_,rfl⟩:=hq
    rw [ZnA (by omega)]
    rw [ZnM,ZnM,add_add,hlo,Zpn]
    rfl
  ·simp only [Value.slice.injEq] at h5
   obtain ⟨_,_,rfl⟩:=h5
   simp at hm
   exact absurd (by omega) e
theorem Za3 (l:List Int):(l.map Flat.enc).flatten = l.map (Value.int .i64):=by
 induction l with
 | nil=>rfl
 | cons x l ih=>rw [ZnE,ZoP,ih]; rfl
theorem Zg5 {w:World} {F:Nat → Prop} {css:List (List Value)} {l:List Int} (h1:Css w F css l):css = l.map Flat.enc:=by
 apply Zo8
 intro i
 rw [ZnW]
 by_cases hi:i < l.length
 ·have hi' : i < css.length := by rw [h1.1]; exact hi
  rw [Zn5 hi,Zn5 hi']
  exact congrArg some (Flat.iff.1 (h1.2 i css[i] l[i] (Zn5 hi') (Zn5 hi)))
 ·rw [ZnT (by rw [h1.1]; omega),ZnT (by omega)]; rfl
theorem cell_of {w:World} {g:Nat} {cur:Array Value} {E:TypeId} (hg:w.heap[g]? = some (.cells cur E (0,0))) (j:Nat):w.cell? ⟨g,j,none⟩ = cur[j]?:=by simp [World.cell?,hg]
theorem ZiZ {P:Program} {t ty E:TypeId} {w:World} {A:Nat → Prop} {v u:Value} {l m:List Int} (h:(TL E v l).ok w A) (ht:P.underlying t = some (.slice E)) (hE:ElT P E Int) {Fr:Nat → Prop} (hu:RV w Fr u m) (hroom:l.length + m.length ≤ room) :
  ∃ a' c' w' T,(Builtin.append_ #[t,t] ty #[v,u]).run P w = .ok (.slice a' (l ++ m).length c') w' ∧ (TL E (.slice a' (l ++ m).length c') (l ++ m)).ok w' (fun k=>A k ∨ w.heap.size ≤ k) ∧ Chg T w w' ∧ ∀ k,T k → A k:=by
 rcases h with ⟨g,c,lo,a',c',base,ho,hv,h3,h4,rfl⟩ | ⟨rfl,b,rfl⟩
 ·obtain ⟨F, css, h1, h2, hob, hgo, h5⟩ := ho
  have hcss:=Zg5 h1
  subst hcss
  have hsI:Rep.sz Int = 1:=rfl
  rcases h2.2 with ⟨hn0,_⟩ | ⟨g0,cap,cur,hv0,hb,hg,hnc,hcm,hcs,htake⟩
  ·cases hn0
  simp only [Value.slice.injEq,Option.some.injEq,Addr.mk.injEq] at hv0
  obtain ⟨⟨rfl,_⟩,_,rfl⟩:=hv0
  rw [hsI,Zp8] at hcs
  rw [hsI,Zp8,Za3] at htake
  obtain ⟨i,z,hi,hz,hsz,hzs,hby⟩:=hE.out
  obtain ⟨ua,ucap,rfl,hcap,hmax,hcells⟩:=hu.slice
  obtain ⟨v0,vadd,vcap⟩:=hv
  unfold room at hroom
  obtain ⟨off,ha',hoff⟩ : ∃ off,a' = some ⟨g,off,none⟩ ∧ (c ≠ lo.toNat → off = lo.toNat):=by
   by_cases e:c = lo.toNat
   ·exact ⟨0,by rw [vadd,ZnC e],fun h=>absurd e h⟩
   ·refine ⟨lo.toNat, ?_, fun _ => rfl⟩
    rw [vadd,ZnA e]
    have:(⟨g,0,none⟩ : Addr).add (lo.toNat * 1) = ⟨g,lo.toNat * 1,none⟩:=by unfold Addr.add; split <;> simp_all
    rw [ZnM,this,Zp8]
  subst ha'
  by_cases hm:m = []
  ·subst hm
   refine ⟨some ⟨g,off,none⟩,c',w,Non,?_,?_,Chg.refl _ _,fun k hk=>hk.elim⟩
   ·have hle : l.length ≤ c' := by omega
    cases ua with
    | none=>simp [Builtin.append_,run_underlying ht,sizeOf,typeInfo,hi,Builtin.lenOf,Builtin.firstCells,storeCells,hle]
    | some ad=>simp [Builtin.append_,run_underlying ht,sizeOf,typeInfo,hi,Builtin.lenOf,Builtin.firstCells,storeCells,loadCells,loadCellsFrom,hle]
   ·rw [Zoz]
    refine .inl ⟨g,c,lo,_,c',base,?_,⟨v0,vadd,vcap⟩,h3,h4,rfl⟩
    exact OwnS.regard (G:=A) ⟨F,_,h1,h2,hob,hgo,h5⟩ fun k _ hk=>.inl hk
  ·obtain ⟨ad, rfl, _, he⟩ := hcells hm
   obtain ⟨cssm,g1,g2⟩:=Za4 he
   have hcm2:=Zg5 g1
   subst hcm2
   rw [Za3] at g2
   have hpos:0 < m.length:=List.length_pos_iff.2 hm
   have hl1:(m.map (Value.int .i64)).length = m.length * i.size:=by rw [hsz,hsI]; simp
   have hone:∀ u ∈ m.map (Value.int .i64),u.oneCell' = true:=fun u hu=>by
    obtain ⟨x,_,rfl⟩:=ZoB.1 hu
    rfl
   have hnews:∀ j u,(m.map (Value.int .i64))[j]? = some u → w.cell? (ad.add j) = some u:=fun j u hu=>by simpa using g2 j u hu
   by_cases hr:l.length + m.length ≤ c'
   ·have hne : c ≠ lo.toNat := by omega
    obtain rfl:=hoff hne
    have hfc:=run_firstCells_some (P:=P) w i.size m.length ad m.length ucap (m.map (Value.int .i64)) hl1 hnews
    have hst:=run_storeCells_at (P:=P) g (lo.toNat + l.length) E (m.map (Value.int .i64)) 0 cur w hg (by simp; omega) hone
    simp only [ZoQ] at hst
    have hoffs:lo.toNat + l.length * i.size = lo.toNat + l.length:=by rw [hsz,hsI,Zp8]
    refine ⟨some ⟨g,lo.toNat,none⟩,c',w.setRow g (List.take (lo.toNat + l.length) cur.toList ++ m.map (Value.int .i64) ++ List.drop (lo.toNat + l.length + (m.map (Value.int .i64)).length) cur.toList).toArray,fun k=>k = g,?_,?_,⟨rfl,rfl,rfl,by simp,fun k _ hn=>setRow_other w g k _ fun e=>hn (by rw [e])⟩,fun k hk=>hk ▸ (hgo g rfl).1⟩
    ·rw [ZnD]
     simp [Builtin.append_,run_underlying ht,sizeOf,typeInfo,hi,Builtin.lenOf,hr,hfc,Addr.add_lit,hoffs,hst]
    ·have hbm : (base ++ m).length = base.length + m.length := ZnD
     refine .inl ⟨g,c,lo,_,c',base ++ m,⟨Non,(base ++ m).map Flat.enc,Zbn _,⟨?_,.inr ⟨g,c,_,rfl,hb,setRow_heap w g cur _ E _ hg,by omega,hcm,?_,?_⟩⟩,rfl,fun g' hg'=>⟨.inl ?_,id⟩,fun _ h=>h.elim⟩,⟨v0,vadd,vcap⟩,by rw [hbm,ZnD]; omega,?_,rfl⟩
     ·rw [Za3,hsI,Zp8,Zog]
     ·rw [hsI]; simp; omega
     ·rw [hsI, Zp8, Za3, Zo2, hbm, h3, ← htake]
      have hlt:(cur.toList.take base.length).length = base.length:=by simp; omega
      simp only [Zoh]
      rw [List.take_append,hlt]
      simp [List.take_take]
     ·obtain rfl := Option.some.inj hg'
      exact (hgo _ rfl).1
     ·rw [h4,List.drop_append_of_le_length (by omega)]
   ·obtain ⟨v',w',hrun,hrow,hgr⟩:=run_append_arg_grows (P:=P) w t ty E i z (Rep.sz Int) i.bytes ht hi hz hsz rfl hzs Rep.pos ⟨g,off,none⟩ l.length c' (l.map (Value.int .i64)) (by rw [hsI]; simp) (fun j u hu=>by
      have hj:j < l.length:=by simpa using (Zn9.1 hu).1
      have hne:c ≠ lo.toNat:=by
       have:=hnc
       omega
      obtain rfl:=hoff hne
      have hadd:(⟨g,lo.toNat,none⟩ : Addr).add j = ⟨g,lo.toNat + j,none⟩:=by unfold Addr.add; split <;> simp_all
      rw [hadd,cell_of hg]
      have:=congrArg (fun x=>x[lo.toNat + j]?) htake
      simp only [ZpX (show lo.toNat + j < base.length by omega),Zpk] at this
      rw [this,← hu,h4,ZnW,ZnW,ZoC]) ad m.length ucap (m.map (Value.int .i64)) (by rw [hsI]; simp) hnews (by omega) (by simp only [maxLen]; omega) (by
      have:(l.length + m.length) * i.bytes ≤ 4294967296 * 32768:=Zrd hroom hby
      omega)
    have hrow':=hrow
    rcases hrow.2 with ⟨_,h0⟩ | ⟨g',cap',cur',rfl,hb',rest⟩
    ·omega
    ·have hlm : l.length + m.length = (l ++ m).length := ZnD.symm
     rw [hlm] at hrun hrow'
     refine ⟨_,cap',w',Non,hrun,ZiE (.inl ⟨some g',Non,(l ++ m).map Flat.enc,Zbn _,⟨?_,.inr ⟨g',cap',cur',rfl,ZoW _,?_⟩⟩,rfl,fun g'' hg''=>⟨.inr ?_,id⟩,fun _ h=>h.elim⟩),⟨hgr.os,hgr.tape,hgr.output,hgr.size,fun k hk _=>hgr.block k hk (by simp)⟩,fun k hk=>hk.elim⟩
     ·rw [Za3,hsI,Zp8,Zog]
     ·rw [Za3,Zo2,← hlm]; exact rest
     ·obtain rfl := Option.some.inj hg''
      exact hb'
 ·obtain ⟨v', w', hrun, hok, hc⟩ := Zbg (P := P) (ty := ty) (v := b) ht hE hu (by simpa using hroom)
  have hsl:∃ a' c',v' = .slice a' (List.length m) c':=by
   rcases hok with ⟨go,ho⟩ | ⟨rfl,a',rfl⟩
   ·exact ho.slice
   ·exact ⟨a',0,rfl⟩
  obtain ⟨a',c',rfl⟩:=hsl
  exact ⟨a',c',w',Non,by simpa using hrun,by simpa using (TL E _ m).mono (ZiE hok) fun k _ hk=>.inr hk,hc,fun k hk=>hk.elim⟩
section
variable {P:Program} {ops:Array Oper} {Q:Exit → Act → World → Prop} {a:Act} {w w0:World} {S S0 F F0:Nat → Prop} {N:Nat} {σ:List (Nat × Value)} {k d:Nat} {t t' ty E:TypeId} {x y:Operand} {pos:String} {af:Array Edge}
  {L:List HP}
theorem Zjr {y':Operand} {Fr:Nat → Prop} {v u:Value} {l m:List Int} (i:Nat) (hs:Sep L w S) (hM:Mem w0 S0 F0 w S F) (hL:L[i]? = some (TL E v l)) (ht:P.underlying t = some (.slice E)) (hE:ElT P E Int)
  (hop:ops[k]? = some ⟨some d,.call ⟨.builtin .append,#[x,y'],#[t,t']⟩,ty,pos,af,none⟩) (htt:t' = t) (hd:Nat.blt d N = true) (hF:FrS N σ a) (hx:opd σ x = some v) (hy:opd σ y' = some u) (hu:RV w Fr u m)
  {r:List Int} (hr:app? l m = some r)
  (h:∀ a' c' w' S' fr,Sep (L.set i (TL E (.slice a' (List.length r) c') r)) w' S' → Stp w S w' S' → FrS N ((d,.slice a' (List.length r) c') :: σ) fr → wpFrom P ops Q (k + 1) fr w'):wpFrom P ops Q k a w:=by
 obtain ⟨A,hok,hup⟩:=hs.upd i hL hM
 subst htt
 unfold app? at hr
 split at hr
 ·rename_i hroom
  simp only [Option.some.injEq] at hr; subst hr
  obtain ⟨a',c',w',T,hrun,hok',hc,hT⟩:=ZiZ (ty:=ty) hok ht hE hu hroom
  refine Zz hF hop rfl rfl (Zon.mp hd) (R:=fun z w1=>z = .slice a' (List.length (l ++ m)) c' ∧ w1 = w') (Zh ?_ ⟨rfl,rfl⟩) fun z w1 fr hz hF'=>?_
  ·simp [execOp,resolve,invoke,builtin,Zd hF hx,Zd hF hy,hrun]
  ·obtain ⟨rfl, rfl⟩ := hz
   obtain ⟨S',hp,hs'⟩:=hup (hc.mono hT) hok'
   exact h a' c' _ S' fr hs' hp hF'
 ·cases hr
theorem Cells.ext {w':World} {ad:Addr} {cs:List Value} (h:Cells w ad cs) (hc:Chg Non w w'):Cells w' ad cs:=fun j u hu=>by
 have h1:=h j u hu
 have hb:(ad.add j).block < w.heap.size:=by
  by_cases hlt:(ad.add j).block < w.heap.size
  ·exact hlt
  ·have:w.cell? (ad.add j) = none:=by
    unfold World.cell?
    rw [Zpd (by omega)]
   rw [this] at h1; cases h1
 rw [← h1]
 unfold World.cell?
 rw [hc.block _ hb id]
theorem Ze0 {t j:Nat} {b:Bool} {o:Oper} (hF:FrS N σ a) (ho:ops[j]? = some o) (hd:o.dst = some t) (ht:Nat.blt t N = true) (hv:opd σ (.tmp t) = some (.bool b)):yielded ops a.tmps j = some b:=by
 have h1:=Zd hF hv
 have h2:=hF.size
 have ht':t < a.tmps.size:=by rw [h2]; exact Zon.mp ht
 have h3:a.tmps[t]? = some (.bool b):=by
  rw [ZoA ht']
  rw [← h1]
  simp [Act.eval,ht']
 unfold yielded
 rw [ho,Zn4,hd,Zn4,h3]
theorem ZhT {ops ops':Array Oper} (hy:∀ j:Nat,(ops[j]?).bind (·.dst) = (ops'[j]?).bind (·.dst)):∀ (l:List Oper),wpList P ops Q l = wpList P ops' Q l:=by
 intro l
 induction l with
 | nil=>rfl
 | cons o l ih=>
  funext a w
  have:yielded ops a.tmps = yielded ops' a.tmps:=by
   funext j; unfold yielded; rw [hy j]
  unfold wpList
  rw [ih,this]
theorem Zjn {g t:Nat} {want:Bool} {o og:Oper} (hF:FrS N σ a) (ho:ops[k]? = some o) (hg:o.guard = some (g,want)) (hog:ops[g]? = some og) (ht:og.dst = some t) (htN:Nat.blt t N = true) (hv:opd σ (.tmp t) = some (.bool want))
  (h:wpFrom P (ops.toList.set k { o with guard:=none }).toArray Q k a w):wpFrom P ops Q k a w:=by
 have hk:k < ops.toList.length:=by simpa using (ZnU.1 ho).1
 have e:ops.toList[k] = o:=by
  have:=(ZnU.1 ho).2
  simpa using this
 have hw:Region.wanted o (yielded ops a.tmps) = true:=by
  simp [Region.wanted,hg,Ze0 hF hog ht htN hv]
 unfold wpFrom at h ⊢
 have hy:∀ j:Nat,(ops[j]?).bind (·.dst) = ((ops.toList.set k { o with guard:=none }).toArray[j]?).bind (·.dst):=fun j=>by
  have h1:(ops.toList.set k { o with guard:=none }).toArray[j]? = (ops.toList.set k { o with guard:=none })[j]?:=by simp
  rw [h1,ZoU]
  split
  ·rename_i e2; subst e2
   rw [ho]; rfl
  ·rw [Zpk]
 have hdrop:(ops.toList.set k { o with guard:=none }).toArray.toList.drop k = { o with guard:=none } :: ops.toList.drop (k + 1):=by
  rw [Zoj (by simpa using hk)]
  simp [List.drop_set_of_lt]
 rw [hdrop] at h
 rw [Zoj hk,e]
 unfold wpList at h ⊢
 rw [ZnC hw]
 rw [ZnC (by simp [Region.wanted]),← ZhT hy] at h
 exact h
theorem ZhK {l:List Oper} {g t:Nat} {want:Bool} {o og:Oper} (hF:FrS N σ a) (ho:l[k]? = some o) (hg:o.guard = some (g,want)) (hog:l[g]? = some og) (ht:og.dst = some t) (htN:Nat.blt t N = true) (hv:opd σ (.tmp t) = some (.bool want))
  (h:wpFrom P (l.set k { o with guard:=none }).toArray Q k a w):wpFrom P l.toArray Q k a w:=
 Zjn hF (by simpa using ho) hg (by simpa using hog) ht htN hv h
theorem ZiV {g t d:Nat} {want b:Bool} {o og:Oper} (hF:FrS N σ a) (ho:ops[k]? = some o) (hg:o.guard = some (g,want)) (hog:ops[g]? = some og) (ht:og.dst = some t) (htN:Nat.blt t N = true) (hv:opd σ (.tmp t) = some (.bool b)) (hb:(b == want) = false)
  (hd:o.dst = some d) (hdN:Nat.blt d N = true) (h:∀ fr,FrS N ((d,undef) :: σ) fr → wpFrom P ops Q (k + 1) fr w):wpFrom P ops Q k a w:=by
 have hk:k < ops.toList.length:=by simpa using (ZnU.1 ho).1
 have e:ops.toList[k] = o:=by
  have:=(ZnU.1 ho).2
  simpa using this
 have hw:Region.wanted o (yielded ops a.tmps) = false:=by
  simpa [Region.wanted,hg,Ze0 hF hog ht htN hv] using hb
 unfold wpFrom at h ⊢
 rw [Zoj hk,e]
 unfold wpList
 rw [ZnA (by simp [hw])]
 have:=h _ (hF.put (Zon.mp hdN) undef)
 rw [hd]
 exact this
theorem Zcj {β:Type} {b:Bool} {x y r:β} (h:(if b = true then x else y) = r):(b = true ∧ x = r) ∨ (b = false ∧ y = r):=by
 cases b
 ·exact .inr ⟨rfl,h⟩
 ·exact .inl ⟨rfl,h⟩
theorem Zj8 {b:Bool} {c:Operand} {v:Value} (ho:ops[k]? = some ⟨some d,.pick c x y,ty,pos,af,none⟩) (hd:Nat.blt d N = true) (hF:FrS N σ a) (hc:opd σ c = some (.bool b)) (hv:opd σ (if b then x else y) = some v)
  (h:∀ fr,FrS N ((d,v) :: σ) fr → wpFrom P ops Q (k + 1) fr w):wpFrom P ops Q k a w:=by
 refine Zz hF ho rfl rfl (Zon.mp hd) (R:=fun z w'=>z = v ∧ w' = w) (Zh (v:=v) (w':=w) ?_ ⟨rfl,rfl⟩) fun z w' fr hz hF'=>?_
 ·have h1 := Zd hF hc
  have h2:=Zd hF hv
  cases b <;> simp_all [execOp,asBool]
 ·obtain ⟨rfl,rfl⟩:=hz; exact h fr hF'
end
theorem ZlC {P:Program} {a b c:Str} (h:cat? a b = some c) (t:TypeId) (w:World):(binOp .add t a.val b.val).run P w = .ok c.val w:=by
 unfold cat? at h
 split at h
 ·rename_i hl
  simp only [Option.some.injEq] at h; subst h
  have e:(⟨a.bytes.toArray⟩ : ByteArray) ++ (⟨b.bytes.toArray⟩ : ByteArray) = ⟨(a.bytes ++ b.bytes).toArray⟩:=by
   apply ByteArray.ext
   simp
  have hs:¬ ((((⟨a.bytes.toArray⟩ : ByteArray).size + (⟨b.bytes.toArray⟩ : ByteArray).size:Nat):Int) > IntKind.i64.max):=by
   have h1:(⟨a.bytes.toArray⟩ : ByteArray).size = a.bytes.length:=by simp [ByteArray.size]
   have h2:(⟨b.bytes.toArray⟩ : ByteArray).size = b.bytes.length:=by simp [ByteArray.size]
   have h3:IntKind.i64.max = 9223372036854775807:=by decide
   rw [h1,h2,h3]; omega
  simp only [Str.val,binOp,Op.stringOp,ZnA hs,e]
  rfl
 ·cases h
section
variable {P:Program} {ops:Array Oper} {Q:Exit → Act → World → Prop} {a:Act} {w:World} {N:Nat} {σ:List (Nat × Value)} {k d:Nat} {t t' yt ty E:TypeId} {x y:Operand} {pos:String} {af:Array Edge} {s1 s2 s3:Str} {F:Nat → Prop}
theorem Znr (ho:ops[k]? = some ⟨some d,.binOp .add t x y yt,ty,pos,af,none⟩) (hd:Nat.blt d N = true) (hF:FrS N σ a) (hx:opd σ x = some s1.val) (hy:opd σ y = some s2.val) (hz:cat? s1 s2 = some s3)
  (h:∀ fr,FrS N ((d,s3.val) :: σ) fr → wpFrom P ops Q (k + 1) fr w):wpFrom P ops Q k a w:=Zd9 ho hd hF hx hy (by simp [eqGuard]) (ZlC hz _ _) h
theorem Zh9 (l:List Byt):∀ s:ByteArray,(l.map (·.n)).foldl (fun r n=>r.push (UInt8.ofNat n.toNat)) s = ⟨(s.data.toList ++ (strOf l).bytes).toArray⟩:=by
 induction l with
 | nil=>intro s; simp [strOf]
 | cons b l ih=>
  intro s
  rw [ZnE,Zo5,ih]
  simp [strOf,ByteArray.push]
theorem Zjb {v:Value} {l:List Byt} (ht:P.underlying t = some (.slice E)) (hE:P.underlying E = some (.int .u8)) (ht':P.underlying t' = some .string) (hl:RV w F v l):(convert t t' v).run P w = .ok (strOf l).val w:=by
 obtain ⟨ad,cap,rfl,hcap,hmax,hcells⟩:=hl.slice
 rw [run_convert_bytes_string w t t' E ad l.length cap ht hE ht']
 by_cases hm:l = []
 ·subst hm
  cases ad with
  | none=>simp [Conv.bytesToString,strOf,Str.val]; rfl
  | some ad=>
   rw [run_bytesToString w ad _ cap [] (by simp [loadCells,loadCellsFrom])]
   rfl
 ·obtain ⟨a', rfl, _, he⟩ := hcells hm
  obtain ⟨css,g1,g2⟩:=Za4 he
  have hcss:css = l.map Flat.enc:=by
   apply Zo8
   intro i
   rw [ZnW]
   by_cases hi:i < l.length
   ·have hi' : i < css.length := by rw [g1.1]; exact hi
    rw [Zn5 hi,Zn5 hi']
    exact congrArg some (Flat.iff.1 (g1.2 i css[i] l[i] (Zn5 hi') (Zn5 hi)))
   ·rw [ZnT (by rw [g1.1]; omega),ZnT (by omega)]; rfl
  subst hcss
  have hfl:(l.map Flat.enc).flatten = (l.map (·.n)).map (Value.int .u8):=by
   clear g1 g2 he hcells hm hcap hl
   induction l with
   | nil=>rfl
   | cons b l ih=>rw [ZnE,ZoP,ih]; rfl
  rw [hfl] at g2
  have hc:∀ j u,((l.map (·.n)).map (Value.int .u8))[j]? = some u → w.cell? (a'.add j) = some u:=fun j u hu=>by simpa using g2 j u hu
  have:=run_loadCells_list (P:=P) w a' _ hc
  have hlen:((l.map (·.n)).map (Value.int .u8)).length = l.length:=by simp
  rw [hlen] at this
  rw [run_bytesToString w a' _ cap (l.map (·.n)) this,Zh9]
  simp [Str.val]
theorem Zhj {v:Value} {l:List Byt} (ht:P.underlying t = some (.slice E)) (hE:P.underlying E = some (.int .u8)) (ht':P.underlying t' = some .string) (ho:ops[k]? = some ⟨some d,.convert t t' x,ty,pos,af,none⟩) (hd:Nat.blt d N = true) (hF:FrS N σ a) (hx:opd σ x = some v) (hl:RV w F v l)
  (h:∀ fr,FrS N ((d,(strOf l).val) :: σ) fr → wpFrom P ops Q (k + 1) fr w):wpFrom P ops Q k a w:=by
 refine Zz hF ho rfl rfl (Zon.mp hd) (R:=fun z w'=>z = (strOf l).val ∧ w' = w) (Zh (v:=(strOf l).val) (w':=w) ?_ ⟨rfl,rfl⟩) fun z w' fr hz hF'=>?_
 ·simp [execOp,Zd hF hx,Zjb ht hE ht' hl]
 ·obtain ⟨rfl,rfl⟩:=hz; exact h fr hF'
end
section
variable {P:Program} {draw:Bool} {ms:List Nat} {ops:Array Oper} {a0:Act} {w0:World} {Q:Exit → Act → World → Prop} {pds:List Pd} {σ:List (Nat × Value)} {N j:Nat} {dst:Option Tmp} {g:Option (Nat × Bool)}
  {t yt ty:TypeId} {x y:Operand} {pos:String} {af:Array Edge} {s1 s2 s3:Str}
end
open Go.RowKit Go.Sort
structure TB (P:Program) (name:String) (k:IntKind) (zs:List Int) (w:World) (F:Nat → Prop):Prop where
 tab:Lib.TabIs P w name k zs
 blk:∃ g,P.globalNamed name = some g ∧ F g
section
variable {P:Program} {name:String} {k:IntKind} {zs:List Int} {w w' w0:World} {S S0 S' F F0 F':Nat → Prop}
theorem TB.lt (h:TB P name k zs w F) {g:Nat} (hg:P.globalNamed name = some g):g < w.heap.size:=by
 have h1:=h.tab
 unfold Lib.TabIs World.var? at h1
 rw [hg,Zn4] at h1
 by_cases hlt:g < w.heap.size
 ·exact hlt
 ·rw [Zpd (by omega)] at h1; cases h1
theorem TB.chg (h:TB P name k zs w F) (hc:Chg S w w') (hd:∀ j,F j → ¬ S j):TB P name k zs w' F:=by
 obtain ⟨g,hg,hF⟩:=h.blk
 refine ⟨?_,g,hg,hF⟩
 have h1:=h.tab
 unfold Lib.TabIs World.var? at h1 ⊢
 rw [hg,Zn4] at h1 ⊢
 rw [hc.block g (h.lt hg) (hd g hF)]
 exact h1
theorem TB.ext (h:TB P name k zs w F) (hc:Chg Non w w'):TB P name k zs w' F:=h.chg hc fun _ _=>id
theorem TB.stp (h:TB P name k zs w F) (hM:Mem w0 S0 F0 w S F) (hp:Stp w S w' S'):TB P name k zs w' F:=h.chg hp.chg fun j hf hs=>hM.dj j hs hf
theorem TB.big (h:TB P name k zs w F) (hf:∀ j,F j → F' j):TB P name k zs w F':=by
 obtain ⟨g,hg,hF⟩:=h.blk
 exact ⟨h.tab,g,hg,hf g hF⟩
theorem TB.sub (h:TB P name k zs w F) (hf:∀ j,j < w.heap.size → F j → F' j):TB P name k zs w F':=by
 obtain ⟨g,hg,hF⟩:=h.blk
 exact ⟨h.tab,g,hg,hf g (h.lt hg) hF⟩
theorem TB.mem (h:TB P name k zs w0 F0) (hM:Mem w0 S0 F0 w S F):TB P name k zs w F:=(h.chg hM.chg fun j hf hs=>hM.dj0 j hs hf).big hM.fz
theorem TB.of (h:Lib.TabIs P w name k zs) (hF:∀ j,j < w.heap.size → F j):TB P name k zs w F:=by
 have h1:=h
 unfold Lib.TabIs World.var? at h1
 cases hg:P.globalNamed name with
 | none=>rw [hg] at h1; cases h1
 | some g=>
  have key:TB P name k zs w (fun _=>True):=⟨h,g,hg,trivial⟩
  exact ⟨h,g,hg,hF g (key.lt hg)⟩
end
section
variable {P:Program} {draw:Bool} {ms:List Nat} {ops:Array Oper} {a0:Act} {w0:World} {Q:Exit → Act → World → Prop} {pds:List Pd} {σ:List (Nat × Value)} {N j:Nat} {dst:Option Tmp} {g:Option (Nat × Bool)}
  {t t' E ty:TypeId} {pos:String} {af:Array Edge} {ow:Nat → Nat}
end
structure VI (P:Program) (name:String) (cs:Array Value) (w:World) (F:Nat → Prop):Prop where
 var:w.var? P name = some cs
 blk:∃ g,P.globalNamed name = some g ∧ F g
section
variable {P:Program} {name:String} {cs:Array Value} {w w' w0:World} {S S0 S' F F0 F':Nat → Prop}
theorem VI.lt (h:VI P name cs w F) {g:Nat} (hg:P.globalNamed name = some g):g < w.heap.size:=by
 have h1:=h.var
 unfold World.var? at h1
 rw [hg,Zn4] at h1
 by_cases hlt:g < w.heap.size
 ·exact hlt
 ·rw [Zpd (by omega)] at h1; cases h1
theorem VI.chg (h:VI P name cs w F) (hc:Chg S w w') (hd:∀ j,F j → ¬ S j):VI P name cs w' F:=by
 obtain ⟨g,hg,hF⟩:=h.blk
 refine ⟨?_,g,hg,hF⟩
 have h1:=h.var
 unfold World.var? at h1 ⊢
 rw [hg,Zn4] at h1 ⊢
 rw [hc.block g (h.lt hg) (hd g hF)]
 exact h1
theorem VI.sub (h:VI P name cs w F) (hf:∀ j,j < w.heap.size → F j → F' j):VI P name cs w F':=by
 obtain ⟨g,hg,hF⟩:=h.blk
 exact ⟨h.var,g,hg,hf g (h.lt hg) hF⟩
theorem VI.cell {x:Value} (h:VI P name #[x] w F) {g:Nat} (hg:P.globalNamed name = some g):w.cell? ⟨g,0,none⟩ = some x:=by
 have h1:=h.var
 unfold World.var? at h1
 rw [hg,Zn4] at h1
 unfold World.cell?
 split at h1
 ·rename_i heq
  obtain rfl:=Option.some.inj h1
  simp [heq]
 ·cases h1
theorem VI.of (h:w.var? P name = some cs) (hF:∀ j,j < w.heap.size → F j):VI P name cs w F:=by
 have h1:=h
 unfold World.var? at h1
 cases hg:P.globalNamed name with
 | none=>rw [hg] at h1; cases h1
 | some g=>
  have key:VI P name cs w (fun _=>True):=⟨h,g,hg,trivial⟩
  exact ⟨h,g,hg,hF g (key.lt hg)⟩
end
structure TX (P:Program) (w:World) (F:Nat → Prop):Prop where
 pow:VI P "internal/strconv.uint64pow10" (Lib.pow10Tab.map fun z=>Value.int .u64 z).toArray w F
 max:∃ m,VI P "internal/bytealg.MaxLen" #[.int .i64 m] w F
 syn:∃ t p,VI P "strconv.ErrSyntax" #[.iface t p] w F
 rng:∃ t p,VI P "strconv.ErrRange" #[.iface t p] w F
section
variable {P:Program} {w w' w0:World} {S S0 S' F F0 F':Nat → Prop}
theorem TX.chg (h:TX P w F) (hc:Chg S w w') (hd:∀ j,F j → ¬ S j):TX P w' F:=by
 obtain ⟨h1,⟨m,h2⟩,⟨t,p,h3⟩,⟨t',p',h4⟩⟩:=h
 exact ⟨h1.chg hc hd,⟨m,h2.chg hc hd⟩,⟨t,p,h3.chg hc hd⟩,⟨t',p',h4.chg hc hd⟩⟩
theorem TX.sub (h:TX P w F) (hf:∀ j,j < w.heap.size → F j → F' j):TX P w F':=by
 obtain ⟨h1,⟨m,h2⟩,⟨t,p,h3⟩,⟨t',p',h4⟩⟩:=h
 exact ⟨h1.sub hf,⟨m,h2.sub hf⟩,⟨t,p,h3.sub hf⟩,⟨t',p',h4.sub hf⟩⟩
theorem TX.tab (h:TX P w F):Lib.TabIs P w "internal/strconv.uint64pow10" .u64 Lib.pow10Tab:=h.pow.var
theorem TX.ext (h:TX P w F) (hc:Chg Non w w'):TX P w' F:=h.chg hc fun _ _=>id
theorem TX.stp (h:TX P w F) (hM:Mem w0 S0 F0 w S F) (hp:Stp w S w' S'):TX P w' F:=h.chg hp.chg fun j hf hs=>hM.dj j hs hf
theorem TX.big (h:TX P w F) (hf:∀ j,F j → F' j):TX P w F':=h.sub fun j _=>hf j
theorem TX.mem (h:TX P w0 F0) (hM:Mem w0 S0 F0 w S F):TX P w F:=(h.chg hM.chg fun j hf hs=>hM.dj0 j hs hf).big hM.fz
end
set_option linter.unusedVariables false
instance:Rep D.Gate where
 sz:=2
 agg:=true
 ok:=fun _ _ cs x=>cs = [.int .i64 x.A,.int .i64 x.B]
 len:=by rintro w F cs x rfl; rfl
 one:=by rintro w F cs x rfl u hu; simp at hu; rcases hu with rfl | rfl <;> rfl
 pos:=by decide
 sgl:=fun h=>by cases h
 keep:=fun h _=>h
instance:Flat D.Gate where
 enc:=fun x=>[.int .i64 x.A,.int .i64 x.B]
 iff:=Iff.rfl
instance:Rep D.Circuit where
 sz:=2
 agg:=true
 ok:=fun w F cs x=>∃ v1:Value,cs = [.int .i64 x.Inputs,v1] ∧ Rep.ok w F [v1] x.Gates
 len:=by rintro w F cs x ⟨v1,rfl,h1⟩; rfl
 one:=by
  rintro w F cs x ⟨v1,rfl,h1⟩ u hu
  simp at hu
  rcases hu with rfl | rfl
  ·rfl
  ·exact Rep.one h1 _ (by simp)
 pos:=by decide
 sgl:=fun h=>by cases h
 keep:=by
  rintro w w' F F' cs x ⟨v1,rfl,h1⟩ hk
  exact ⟨v1,rfl,Rep.keep h1 hk⟩
theorem RV.Circuit {w:World} {F:Nat → Prop} {v:Value} {x:D.Circuit} (h:RV w F v x):∃ v1:Value,v = .agg #[.int .i64 x.Inputs,v1] ∧ RV w F v1 x.Gates:=by
 obtain ⟨cs,⟨v1,rfl,h1⟩,rfl⟩:=h
 exact ⟨v1,rfl,RV.of_one rfl h1⟩
instance:Rep D.Formula where
 sz:=2
 agg:=true
 ok:=fun w F cs x=>∃ v1:Value,cs = [.int .i64 x.Vars,v1] ∧ Rep.ok w F [v1] x.Clauses
 len:=by rintro w F cs x ⟨v1,rfl,h1⟩; rfl
 one:=by
  rintro w F cs x ⟨v1,rfl,h1⟩ u hu
  simp at hu
  rcases hu with rfl | rfl
  ·rfl
  ·exact Rep.one h1 _ (by simp)
 pos:=by decide
 sgl:=fun h=>by cases h
 keep:=by
  rintro w w' F F' cs x ⟨v1,rfl,h1⟩ hk
  exact ⟨v1,rfl,Rep.keep h1 hk⟩
theorem RV.Formula {w:World} {F:Nat → Prop} {v:Value} {x:D.Formula} (h:RV w F v x):∃ v1:Value,v = .agg #[.int .i64 x.Vars,v1] ∧ RV w F v1 x.Clauses:=by
 obtain ⟨cs,⟨v1,rfl,h1⟩,rfl⟩:=h
 exact ⟨v1,rfl,RV.of_one rfl h1⟩
instance:Rep D.Value where
 sz:=3
 agg:=true
 ok:=fun _ _ cs x=>cs = [(Str.val x.Name),.int .i64 x.W,.int .i64 x.N]
 len:=by rintro w F cs x rfl; rfl
 one:=by rintro w F cs x rfl u hu; simp at hu; rcases hu with rfl | rfl | rfl <;> rfl
 pos:=by decide
 sgl:=fun h=>by cases h
 keep:=fun h _=>h
instance:Flat D.Value where
 enc:=fun x=>[(Str.val x.Name),.int .i64 x.W,.int .i64 x.N]
 iff:=Iff.rfl
mutual
def okTerm (w:World) (F:Nat → Prop) (cs:List Value):D.Term → Prop
 | ⟨y0,y1,y2,y3,kids⟩=>∃ (a:Option Addr) (cp:Nat),cs = [.int .i64 y0,.int .i64 y1,.int .i64 y2,(Str.val y3),.slice a kids.length cp] ∧ kids.length ≤ cp ∧ cp ≤ maxLen ∧ (kids ≠ [] → ∃ ad,a = some ad ∧ F ad.block ∧ elsTerm w F ad 0 kids)
def elsTerm (w:World) (F:Nat → Prop) (ad:Addr) (i:Nat):List D.Term → Prop
 | []=>True
 | x :: xs=>(∃ cs,okTerm w F cs x ∧ Cells w (ad.add (i * 5)) cs) ∧ elsTerm w F ad (i + 1) xs
end
theorem Zc5 {w:World} {F:Nat → Prop} {cs:List Value}:∀ {t:D.Term},okTerm w F cs t → cs.length = 5
 | ⟨y0,y1,y2,y3,kids⟩,h=>by
  unfold okTerm at h
  obtain ⟨a,cp,rfl,_⟩:=h; rfl
mutual
theorem Zd7 {w w':World} {F F':Nat → Prop} (hk:∀ k,k < w.heap.size → F k → w'.heap[k]? = w.heap[k]? ∧ F' k) {cs:List Value}:∀ (t:D.Term),okTerm w F cs t → okTerm w' F' cs t
 | ⟨y0,y1,y2,y3,kids⟩,h=>by
  unfold okTerm at h ⊢
  obtain ⟨a,cp,rfl,h1,h2,h3⟩:=h
  refine ⟨a,cp,rfl,h1,h2,fun hn=>?_⟩
  obtain ⟨ad,rfl,hF,he⟩:=h3 hn
  have hlt:ad.block < w.heap.size:=by
   cases kids with
   | nil=>exact absurd rfl hn
   | cons x xs=>
    unfold elsTerm at he
    obtain ⟨⟨cs,h4,h5⟩,_⟩:=he
    have:=h5.lt (by intro e; have:=Zc5 h4; rw [e] at this; cases this)
    rwa [add_block] at this
  exact ⟨ad,rfl,(hk _ hlt hF).2,Zdi hk ad hF kids 0 he⟩
theorem Zdi {w w':World} {F F':Nat → Prop} (hk:∀ k,k < w.heap.size → F k → w'.heap[k]? = w.heap[k]? ∧ F' k) (ad:Addr) (hF:F ad.block):∀ (l:List D.Term) (i:Nat),elsTerm w F ad i l → elsTerm w' F' ad i l
 | [],_,_=>by unfold elsTerm; trivial
 | x :: xs,i,h=>by
  unfold elsTerm at h ⊢
  obtain ⟨⟨cs,h1,h2⟩,h3⟩:=h
  have hlt:ad.block < w.heap.size:=by
   have:=h2.lt (by intro e; have:=Zc5 h1; rw [e] at this; cases this)
   rwa [add_block] at this
  exact ⟨⟨cs,Zd7 hk x h1,h2.keep fun _=>by rw [add_block]; exact (hk _ hlt hF).1⟩,Zdi hk ad hF xs (i + 1) h3⟩
end
instance:Rep D.Term where
 sz:=5
 agg:=true
 ok:=fun w F cs x=>okTerm w F cs x
 len:=Zc5
 one:=by
  rintro w F cs ⟨y0,y1,y2,y3,kids⟩ h u hu
  unfold okTerm at h
  obtain ⟨a,cp,rfl,_⟩:=h
  simp at hu
  rcases hu with rfl | rfl | rfl | rfl | rfl <;> rfl
 pos:=by decide
 sgl:=fun h=>by cases h
 keep:=fun h hk=>Zd7 hk _ h
theorem ZbH {w:World} {F:Nat → Prop} {ad:Addr}:∀ {l:List D.Term} {i:Nat},elsTerm w F ad i l ↔ elems w F ad i l
 | [],i=>by unfold elsTerm elems; exact Iff.rfl
 | x :: xs,i=>by
  unfold elsTerm elems
  rw [ZbH (l:=xs)]
  exact Iff.rfl
theorem RV.Term {w:World} {F:Nat → Prop} {v:Value} {x:D.Term} (h:RV w F v x):∃ v4:Value,v = .agg #[.int .i64 x.Op,.int .i64 x.W,.int .i64 x.N,(Str.val x.Name),v4] ∧ RV w F v4 x.Kids:=by
 obtain ⟨cs,h,rfl⟩:=h
 obtain ⟨y0,y1,y2,y3,kids⟩:=x
 have h:okTerm w F cs ⟨y0,y1,y2,y3,kids⟩:=h
 unfold okTerm at h
 obtain ⟨a,cp,rfl,h1,h2,h3⟩:=h
 refine ⟨_,rfl,RV.mk_slice h1 h2 fun hn=>?_⟩
 obtain ⟨ad,h4,h5,h6⟩:=h3 hn
 exact ⟨ad,h4,h5,ZbH.1 h6⟩
theorem RV.mk_Term {w:World} {F:Nat → Prop} (x:D.Term) {v4:Value} (h:RV w F v4 x.Kids):RV w F (.agg #[.int .i64 x.Op,.int .i64 x.W,.int .i64 x.N,(Str.val x.Name),v4]) x:=by
 obtain ⟨y0,y1,y2,y3,kids⟩:=x
 obtain ⟨a,cp,rfl,h1,h2,h3⟩:=RV.slice h
 refine ⟨_,show okTerm w F [.int .i64 y0,.int .i64 y1,.int .i64 y2,(Str.val y3),.slice a kids.length cp] ⟨y0,y1,y2,y3,kids⟩ from ?_,rfl⟩
 unfold okTerm
 refine ⟨a,cp,rfl,h1,h2,fun hn=>?_⟩
 obtain ⟨ad,h4,h5,h6⟩:=h3 hn
 exact ⟨ad,h4,h5,ZbH.2 h6⟩
instance:Rep D.State where
 sz:=8
 agg:=true
 ok:=fun w F cs x=>∃ v1 v2 v3 v5:Value,cs = [.int .i64 x.Pc,v1,v2,v3,.int .i64 x.In,v5,.int .i64 x.Code,.int .i64 x.Steps] ∧ Rep.ok w F [v1] x.Regs ∧ Rep.ok w F [v2] x.Mem ∧ Rep.ok w F [v3] x.Stack ∧ Rep.ok w F [v5] x.Out
 len:=by rintro w F cs x ⟨v1,v2,v3,v5,rfl,h1,h2,h3,h5⟩; rfl
 one:=by
  rintro w F cs x ⟨v1,v2,v3,v5,rfl,h1,h2,h3,h5⟩ u hu
  simp at hu
  rcases hu with rfl | rfl | rfl | rfl | rfl | rfl | rfl | rfl
  ·rfl
  ·exact Rep.one h1 _ (by simp)
  ·exact Rep.one h2 _ (by simp)
  ·exact Rep.one h3 _ (by simp)
  ·rfl
  ·exact Rep.one h5 _ (by simp)
  ·rfl
  ·rfl
 pos:=by decide
 sgl:=fun h=>by cases h
 keep:=by
  rintro w w' F F' cs x ⟨v1,v2,v3,v5,rfl,h1,h2,h3,h5⟩ hk
  exact ⟨v1,v2,v3,v5,rfl,Rep.keep h1 hk,Rep.keep h2 hk,Rep.keep h3 hk,Rep.keep h5 hk⟩
theorem RV.State {w:World} {F:Nat → Prop} {v:Value} {x:D.State} (h:RV w F v x):∃ v1 v2 v3 v5:Value,v = .agg #[.int .i64 x.Pc,v1,v2,v3,.int .i64 x.In,v5,.int .i64 x.Code,.int .i64 x.Steps] ∧ RV w F v1 x.Regs ∧ RV w F v2 x.Mem ∧ RV w F v3 x.Stack ∧ RV w F v5 x.Out:=by
 obtain ⟨cs,⟨v1,v2,v3,v5,rfl,h1,h2,h3,h5⟩,rfl⟩:=h
 exact ⟨v1,v2,v3,v5,rfl,RV.of_one rfl h1,RV.of_one rfl h2,RV.of_one rfl h3,RV.of_one rfl h5⟩
structure Agg (n:Nat) where
 cs:List Value
instance {n:Nat}:Rep (Agg n) where
 sz:=n + 1
 agg:=true
 ok:=fun _ _ cs _=>cs.length = n + 1 ∧ ∀ u ∈ cs,u.oneCell' = true
 len:=fun h=>h.1
 one:=fun h=>h.2
 pos:=Nat.succ_pos n
 sgl:=fun h=>by cases h
 keep:=fun h _=>h
def cellN (P:Program) (t:TypeId):Option (Nat × Bool):=
 match P.info? t,P.underlying t with
 | some i,some (.struct _)=>some (i.size,true)
 | some i,some (.array _ _)=>none
 | some i,some _=>some (i.size,false)
 | _,_=>none
def loadV (P:Program) (t:TypeId) (off:Nat) (cs:List Value):Option Value:=
 match cellN P t with
 | some (n + 1,true)=>if Nat.beq ((cs.drop off).take (n + 1)).length (n + 1) then some (.agg ((cs.drop off).take (n + 1)).toArray) else none
 | some (1,false)=>cs[off]?
 | _=>none
theorem Zfy {P:Program} {t:TypeId} {off b:Nat} {bt:TypeId} {cs:List Value} {v:Value} {w:World} (h:loadV P t off cs = some v) (hb:Box w b bt cs):(loadVar t ⟨b,off,none⟩).run P w = .ok v w:=by
 unfold loadV cellN at h
 cases hi:P.info? t with
 | none=>simp [hi] at h
 | some i=>
  cases hu:P.underlying t with
  | none=>simp [hi,hu] at h
  | some dd=>
   have key:∀ (n:Nat),i.size = n + 1 → (P.underlying t = some dd) → (match P.underlying t with | some (.struct _)=>true | some (.array _ _)=>true | some _=>false | none=>!true) = true → Ty P t (Agg n):=fun n hn _ ha=>⟨by rw [hi]; exact congrArg some hn,ha⟩
   have agg:∀ n,i.size = n + 1 → Ty P t (Agg n) → (if Nat.beq ((cs.drop off).take (n + 1)).length (n + 1) then some (Value.agg ((cs.drop off).take (n + 1)).toArray) else none) = some v → (loadVar t ⟨b,off,none⟩).run P w = .ok v w:=by
    intro n hn hT h
    split at h
    ·rename_i hlen
     have hlen:=ZpF hlen
     obtain rfl:=Option.some.inj h
     have hp:=hb.part (off:=off) (ps:=(cs.drop off).take (n + 1)) (by rw [hlen])
     exact Yz hT hlen hp
    ·cases h
   cases dd with
   | struct fs=>
    simp only [hi,hu] at h
    cases hn:i.size with
    | zero=>simp [hn] at h
    | succ n=>simp only [hn] at h; exact agg n hn (key n hn hu (by rw [hu])) h
   | array _ _=>simp [hi,hu] at h
   | _=>
    simp only [hi,hu] at h
    have hT:i.size = 1 → Ty P t Int:=fun h1=>⟨by rw [hi]; exact congrArg some h1,by rw [hu]; rfl⟩
    split at h
    ·rename_i heq; simp at heq
    ·rename_i heq
     simp only [Option.some.injEq,Prod.mk.injEq,ZrF] at heq
     have hc:Cells w ⟨b,off,none⟩ [v]:=fun j u hj=>by
      cases j with
      | zero=>
       simp only [Zo9,Option.some.injEq] at hj; subst hj
       have:(⟨b,off,none⟩ : Addr).add 0 = ⟨b,off,none⟩:=by simp [Addr.add]
       rw [this,hb.cell]; exact h
      | succ j=>simp at hj
     exact Yz (hT heq) (cs:=[v]) rfl hc
    ·cases h
abbrev Bxs:=List (Nat × List Value)
def Bxs.at (bx:Bxs) (w:World):Prop:=∀ p ∈ bx,∃ t,Box w p.1 t p.2
def evB (P:Program) (bx:Bxs) (ρ:Operand → Option Value) (h:Option Nat) (o:Op):Option (Value × List (Nat × Nat)):=
 match h with
 | none=>(pe P ρ o).map fun v=>(v,[])
 | some i=>
  match o with
  | .load t x=>
   match ρ x,bx[i]? with
   | some (.pointer (some ⟨b,off,none⟩)),some (b',cs)=>(loadV P t off cs).map fun v=>(v,[(b,b')])
   | _,_=>none
  | _=>none
def seqB (P:Program) (N:Nat) (bx:Bxs) (hs:List (Nat × Nat)):Nat → List Oper → List (Nat × Value) → Option (List (Nat × Value) × List (Nat × Nat))
 | _,[],σ=>some (σ,[])
 | j,o :: os,σ=>
  match o.guard,o.dst,evB P bx (opd σ) (hs.lookup j) o.op with
  | none,some d,some (v,e)=>if d < N then (seqB P N bx hs (j + 1) os ((d,v) :: σ)).map fun r=>(r.1,e ++ r.2) else none
  | _,_,_=>none
def okB {α:Type} (o:Option (α × List (Nat × Nat))):Prop:=o.map (fun r=>r.2.map (·.1)) = some ((o.map (fun r=>r.2.map (·.2))).getD [])
theorem Zit {α:Type} {o:Option (α × List (Nat × Nat))} (h:okB o):∃ x e,o = some (x,e) ∧ ∀ p ∈ e,p.1 = p.2:=by
 unfold okB at h
 cases o with
 | none=>cases h
 | some r=>
  obtain ⟨x,e⟩:=r
  simp only [ZnM,Zol,Option.some.injEq] at h
  exact ⟨x,e,rfl,fun p hp=>ZoI.1 h p hp⟩
section
variable {P:Program} {ops:Array Oper} {Q:Exit → Act → World → Prop} {a:Act} {w:World} {N:Nat} {σ:List (Nat × Value)} {bx:Bxs} {hs:List (Nat × Nat)}
theorem Znc {ρ:Operand → Option Value} {o:Oper} {h:Option Nat} {v:Value} {e:List (Nat × Nat)} {K:Act → World → Prop} (hρ:∀ x v,ρ x = some v → a.eval x = v) (hbx:bx.at w) (he:evB P bx ρ h o.op = some (v,e)) (heq:∀ p ∈ e,p.1 = p.2)
  (hK:K (a.put o.dst v) w):o.wp P a w K Q:=by
 unfold evB at he
 cases h with
 | none=>
  simp only at he
  cases hp:pe P ρ o.op with
  | none=>rw [hp] at he; cases he
  | some u=>
   rw [hp] at he
   simp only [ZnM,Option.some.injEq,Prod.mk.injEq] at he
   obtain ⟨rfl,rfl⟩:=he
   unfold Oper.wp
   rw [ZbR (P:=P) (ρ':=a.eval) hρ hp w]
   exact hK
 | some i=>
  simp only at he
  split at he
  ·rename_i t x ho
   split at he
   ·rename_i b off b' cs hx hi
    cases hl:loadV P t off cs with
    | none=>rw [hl] at he; cases he
    | some u=>
     rw [hl] at he
     simp only [ZnM,Option.some.injEq,Prod.mk.injEq] at he
     obtain ⟨rfl,rfl⟩:=he
     have hb:b = b':=heq (b,b') (by simp)
     subst hb
     obtain ⟨bt,hB⟩:=hbx _ (ZnN hi)
     have hr:=Zfy hl hB
     have hx':=hρ x _ hx
     unfold Oper.wp
     have:(execOp a.eval o).run P w = .ok (.value u) w:=by
      simp [execOp,ho,Instr.loadAt,hx',Instr.sureAddr,hr]
     rw [this]
     exact hK
   ·cases he
  ·cases he
theorem Zct {rest:List Oper} (hbx:bx.at w):∀ {l:List Oper} {j:Nat} {σ σ1:List (Nat × Value)} {e:List (Nat × Nat)} {a:Act},FrS N σ a → seqB P N bx hs j l σ = some (σ1,e) → (∀ p ∈ e,p.1 = p.2) → (∀ a',FrS N σ1 a' → wpList P ops Q rest a' w) → wpList P ops Q (l ++ rest) a w
 | [],j,σ,σ1,e,a,hF,hs,_,h=>by
  simp only [seqB,Option.some.injEq,Prod.mk.injEq] at hs
  obtain ⟨rfl,_⟩:=hs
  exact h a hF
 | o :: l,j,σ,σ1,e,a,hF,hs,he,h=>by
  unfold seqB at hs
  split at hs
  ·rename_i d v e1 hg hd hv
   split at hs
   ·rename_i hdN
    cases hr:seqB P N bx _ (j + 1) l ((d,v) :: σ) with
    | none=>rw [hr] at hs; cases hs
    | some r=>
     obtain ⟨σ2,e2⟩:=r
     rw [hr] at hs
     simp only [ZnM,Option.some.injEq,Prod.mk.injEq] at hs
     obtain ⟨rfl,rfl⟩:=hs
     refine wpList_plain hg fun K hK=>Znc (fun x u hx=>Zd hF hx) hbx hv (fun p hp=>he p (ZnS.2 (.inl hp))) (hK _ _ ?_)
     rw [hd]
     exact Zct hbx (hF.put hdN v) hr (fun p hp=>he p (ZnS.2 (.inr hp))) h
   ·cases hs
  ·cases hs
end
def pureB (P:Program) (bx:Bxs) (hs:List (Nat × Nat)) (ops:Array Oper) (σ:List (Nat × Value)) (pds:List Pd) (j:Nat):Option (Value × List (Nat × Nat)):=
 match hs.lookup j with
 | none=>(pureV P ops σ pds j).map fun v=>(v,[])
 | some i=>
  match ops[j]? with
  | some o=>evB P bx (envP ops σ pds j) (some i) o.op
  | none=>none
def pdsB (P:Program) (bx:Bxs) (hs:List (Nat × Nat)) (ops:Array Oper) (σ:List (Nat × Value)) (np:List (Nat × Pd)):Nat → List Pd
 | 0=>[]
 | n + 1=>pdsB P bx hs ops σ np n ++ [match np.lookup n with
  | some p=>p
  | none=>match pureB P bx hs ops σ (pdsB P bx hs ops σ np n) n with
   | some v=>.eq v.1
   | none=>.any]
def pdsM (P:Program) (bx:Bxs) (hs:List (Nat × Nat)) (ops:Array Oper) (σ:List (Nat × Value)) (np:List (Nat × Pd)) (m:Nat):List Pd:=pdsB P bx hs ops σ np m ++ List.replicate (ops.size - m) .any
def freeI (np:List (Nat × Pd)) (m:Nat):List Nat:=(List.range m).filter fun j=>(np.lookup j).isNone
def isPB (hs:List (Nat × Nat)) (np:List (Nat × Pd)) (m:Nat):List Bool:=(List.range m).map fun j=>(np.lookup j).isNone && (hs.lookup j).isNone
def outS (ops:Array Oper) (σ:List (Nat × Value)) (pds:List Pd) (m:Nat):List (Nat × Value) :=
 ((List.range m).filterMap fun i => match (ops[i]?).bind (·.dst), guardOf ops i, valAt pds i with
  | some d,none,some v=>if lastW ops d m == some i then some (d,v) else none
  | _,_,_=>none) ++ σ.filter fun p=>(lastW ops p.1 m).isNone
section
variable {P:Program} {bx:Bxs} {hs:List (Nat × Nat)} {ops:Array Oper} {σ:List (Nat × Value)} {np:List (Nat × Pd)} {pds:List Pd} {m:Nat}
theorem ZaZ:∀ n,(pdsB P bx hs ops σ np n).length = n
 | 0=>rfl
 | n + 1=>by simp [pdsB,ZaZ n]
theorem Zgt:∀ n j,j < n → ∀ p,np.lookup j = some p → (pdsB P bx hs ops σ np n).getD j .any = p
 | 0,j,h,_,_=>absurd h (Nat.not_lt_zero _)
 | n + 1,j,h,p,hp=>by
  unfold pdsB
  rw [Zn8]
  rcases Zp1 j n with h1 | h1
  ·rw [ZnJ (by rw [ZaZ]; exact h1), ← Zn8]
   exact Zgt n j h1 p hp
  ·obtain rfl : j = n := by omega
   rw [ZnH (by rw [ZaZ]; exact ZnK _),ZaZ,ZoR]
   simp [hp]
theorem ZaB {j:Nat} (h:j < m) {p:Pd} (hp:np.lookup j = some p):(pdsM P bx hs ops σ np m).getD j .any = p:=by
 unfold pdsM
 rw [Zn8,ZnJ (by rw [ZaZ]; exact h),← Zn8]
 exact Zgt m j h p hp
theorem Zje {j:Nat} (h:m ≤ j):(pdsM P bx hs ops σ np m).getD j .any = .any:=by
 unfold pdsM
 rw [Zn8,ZnH (by rw [ZaZ]; exact h),ZoZ]
 split <;> rfl
theorem Zak {t:Nat} {v:Value} {f:Nat → Bool}:∀ {σ:List (Nat × Value)},(σ.filter fun p=>f p.1).lookup t = some v → f t = true ∧ σ.lookup t = some v
 | [],h=>by cases h
 | (k,u) :: σ,h=>by
  rw [List.filter_cons] at h
  by_cases e:t = k
  ·subst e
   by_cases hf:f t = true
   ·rw [ZnC (by simpa using hf)] at h
    simp only [Zoi,Zph] at h ⊢
    exact ⟨hf,h⟩
   ·rw [ZnA (by simpa using hf)] at h
    exact absurd (Zak h).1 hf
  ·have e' : (t == k) = false := by simpa using e
   have h2:(σ.filter fun p=>f p.1).lookup t = some v:=by
    split at h
    ·rw [Zoi,e'] at h; exact h
    ·exact h
   rw [Zoi,e']
   exact Zak h2
theorem Zgo {t:Nat} {v:Value} (h:(outS ops σ pds m).lookup t = some v):outVm ops σ pds m t = some v:=by
 unfold outS at h
 rw [List.lookup_append] at h
 unfold outVm
 cases h1:((List.range m).filterMap fun i=>match (ops[i]?).bind (·.dst),guardOf ops i,valAt pds i with
  | some d,none,some v=>if lastW ops d m == some i then some (d,v) else none
  | _,_,_=>none).lookup t with
 | some u=>
  rw [h1] at h
  simp only [Option.some_or,Option.some.injEq] at h; subst h
  have hm:=Zag h1
  rw [ZpZ] at hm
  obtain ⟨i,_,hi⟩:=hm
  split at hi
  ·rename_i d v hd hg hv
   split at hi
   ·rename_i hl
    simp only [Option.some.injEq,Prod.mk.injEq] at hi
    obtain ⟨rfl,rfl⟩:=hi
    rw [ZoN] at hl
    rw [hl]; simp [hg,hv]
   ·cases hi
  ·cases hi
 | none=>
  rw [h1] at h
  simp only [Option.none_or] at h
  obtain ⟨h2,h3⟩:=Zak (f:=fun k=>(lastW ops k m).isNone) h
  rw [ZoM] at h2
  rw [h2]; exact h3
theorem ZcL {p:Nat → Prop}:∀ {l:List Nat},(∀ j ∈ l,p j) → AllL p l
 | [],_=>trivial
 | j :: _,h=>⟨h j ZnR,ZcL fun i hi=>h i (ZnZ _ hi)⟩
theorem Zhm {N:Nat} {a a':Act} {w:World} (hF:FrS N σ a) (hE:EndM ops (TT ops pds) a m a' w) {t:Nat} {v:Value} (h:outVm ops σ pds m t = some v):a'.eval (.tmp t) = v:=by
 have h1:=hE.2.2 t
 unfold Know at h1
 unfold outVm at h
 cases hl:lastW ops t m with
 | none=>simp only [hl] at h h1; rw [h1]; exact hF.get t v h
 | some i=>
  simp only [hl] at h h1
  split at h
  ·rename_i hg
   have hi:=ZiB (Xu hl).2
   have hgi:gc ops pds ops.size i:=by
    obtain ⟨k,hk⟩ : ∃ k,ops.size = k + 1:=⟨ops.size - 1,by omega⟩
    rw [hk]; unfold gc
    rw [ZoM] at hg
    rw [hg]; trivial
   have h2:=h1.1 hgi
   unfold valAt Pd.val? at h
   split at h
   ·rename_i u hu
    simp only [Option.some.injEq] at h; subst h
    rw [hu] at h2; exact h2
   ·cases h
  ·cases h
theorem X7 {j:Nat} {p:Pd}:∀ {np:List (Nat × Pd)},np.lookup j = some p → (j,p) ∈ np
 | (k,q) :: np,h=>by
  rw [Zoi] at h
  by_cases e:j = k
  ·subst e; simp at h; subst h; exact ZnR
  ·have : (j == k) = false := by simpa using e
   rw [this] at h; exact ZnZ _ (X7 h)
theorem Zdj {j:Nat} (h:j < m):(isPB hs np m).getD j false = ((np.lookup j).isNone && (hs.lookup j).isNone):=by
 unfold isPB
 rw [Zn8,ZnW,Zp2 h]; rfl
variable {N:Nat} {a:Act} {w:World} {Q:Exit → Act → World → Prop} {draw:Bool} {ms:List Nat}
structure ChkB (P:Program) (bx:Bxs) (hs:List (Nat × Nat)) (ops:Array Oper) (σ:List (Nat × Value)) (np:List (Nat × Pd)) (m:Nat) (pds:List Pd):Prop where
 val:(freeI np m).map (fun j=>(pureB P bx hs ops σ pds j).map (·.1)) = (freeI np m).map fun j=>(pds.getD j .any).val?
 some:((freeI np m).all fun j=>(pds.getD j .any).val?.isSome) = true
 blk:(freeI np m).map (fun j=>(pureB P bx hs ops σ pds j).map fun r=>r.2.map (·.1)) = (freeI np m).map fun j=>(pureB P bx hs ops σ pds j).map fun r=>r.2.map (·.2)
theorem ChkB.at {j:Nat} (h:ChkB P bx hs ops σ np m pds) (hj:j < m) (hn:np.lookup j = none):∃ v e,pureB P bx hs ops σ pds j = .some (v,e) ∧ (pds.getD j .any) = .eq v ∧ ∀ p ∈ e,p.1 = p.2:=by
 have hm:j ∈ freeI np m:=Zoc.2 ⟨Zoa.2 hj,by rw [hn]; rfl⟩
 have h1:=ZoI.1 h.val j hm
 have h2:=h.some
 rw [ZnP] at h2
 obtain ⟨v,hv⟩:=Zpw.1 (h2 j hm)
 have h3:=ZoI.1 h.blk j hm
 have hpd:pds.getD j .any = .eq v:=by
  cases hp:pds.getD j .any with
  | eq u=>rw [hp] at hv; simp only [Pd.val?,Option.some.injEq] at hv; rw [hv]
  | is p=>rw [hp] at hv; cases hv
  | own p=>rw [hp] at hv; cases hv
  | any=>rw [hp] at hv; cases hv
 cases hb:pureB P bx hs ops σ pds j with
 | none=>rw [hb,hv] at h1; cases h1
 | some r=>
  obtain ⟨u,e⟩:=r
  rw [hb,hv] at h1
  simp only [ZnM,Option.some.injEq] at h1
  subst h1
  rw [hb] at h3
  simp only [ZnM,Option.some.injEq] at h3
  exact ⟨u,e,rfl,hpd,fun p hp=>ZoI.1 h3 p hp⟩
theorem ZgA {j i:Nat} {v:Value} {e:List (Nat × Nat)} (hbx:bx.at w) (hG:Good ops pds []) (hF:FrS N σ a) (hi:hs.lookup j = some i) (hp:pureB P bx hs ops σ pds j = some (v,e)) (he:∀ p ∈ e,p.1 = p.2) (hpd:pds.getD j .any = .eq v):NPB P draw ms ops pds a w Q j:=by
 unfold pureB at hp
 rw [hi] at hp
 simp only at hp
 cases ho:ops[j]? with
 | none=>rw [ho] at hp; cases hp
 | some o=>
  rw [ho] at hp
  simp only at hp
  obtain ⟨dst,op,ty,pos,af,g⟩:=o
  unfold evB at hp
  simp only at hp
  split at hp
  ·rename_i t x
   split at hp
   ·rename_i b off b' cs hx hbi
    cases hl:loadV P t off cs with
    | none=>rw [hl] at hp; cases hp
    | some u=>
     rw [hl] at hp
     simp only [ZnM,Option.some.injEq,Prod.mk.injEq] at hp
     obtain ⟨rfl,rfl⟩:=hp
     have hb:b = b':=he (b,b') (by simp)
     subst hb
     obtain ⟨bt,hB⟩:=hbx _ (ZnN hbi)
     exact Zco _ ho hG hF fun a' w' hC _ hv _=>by
      have hr:=Zfy hl (hB.ext hC)
      have hx':=hv x _ (by simp [Op.operands]) hx
      refine Zh (v:=u) (w':=w') ?_ (by rw [hpd]; exact ⟨rfl,Chg.refl _ _⟩)
      simp [execOp,Instr.loadAt,hx',Instr.sureAddr,hr]
   ·cases hp
  ·cases hp
end
end Go.GL
end
