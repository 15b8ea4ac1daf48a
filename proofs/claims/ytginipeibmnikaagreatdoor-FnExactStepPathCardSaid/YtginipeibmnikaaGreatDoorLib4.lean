/- Texts of this claim put into one: library or plain laws, without the program under test. -/
import Derived.Test.YtginipeibmnikaaGreatDoorLib3
section
set_option linter.unusedVariables false
namespace Go.GL
open Go.RowKit
section
variable {P:Program} {B:Bs} {N:Nat} {σ:List (Nat × Value)} {Γ:List HP} {Φ:List RF} {a:Act} {w:World} {Q:Exit → Act → World → Prop} {ops:Array Oper} {k d:Nat} {t t' ty:TypeId} {x y:Operand} {pos:String} {af:Array Edge}
theorem Ecl {α:Type} [Rep α] {hi mx:Operand} {b:Option Addr} {cp:Nat} {l:List α} (E:TypeId) (c:Cx B N σ Γ Φ a w) (hl:Ava [] Φ w (RO (.slice b l.length cp) l)) (h:∀ fr,Cx B N ((d,.slice b l.length l.length) :: σ) Γ (Φ ++ [RO (.slice b l.length l.length) l]) fr w → wpFrom P ops Q (k + 1) fr w)
  (ho:ops[k]? = some ⟨some d,.slice t x none (some hi) (some mx),ty,pos,af,none⟩:=by rfl) (hd:Nat.blt d N = true:=by rfl) (he:Ty P E α:=by constructor <;> kernel_rfl) (ht:P.underlying t = some (.slice E):=by kernel_rfl)
  (hx:opd σ x = some (.slice b l.length cp):=by kernel_rfl) (hhi:opd σ hi = some (.int .i64 (len l)):=by kernel_rfl) (hmx:opd σ mx = some (.int .i64 (len l)):=by kernel_rfl):wpFrom P ops Q k a w:=by
 obtain ⟨hF,S,F,hM,hs,hf⟩:=c
 have hl':=hl Non F (Sep.nil w Non) hf
 obtain ⟨b',cap,e,hc1,hc2,hc3⟩:=RV.slice hl'
 obtain ⟨rfl,_,rfl⟩:=Value.slice.inj e
 have e0:∀ ad:Addr,ad.add 0 = ad:=fun ad=>by cases ad; simp [Addr.add]
 have hln:len l = ((l.length:Nat):Int):=rfl
 refine ZQ hF ho rfl rfl (ZmT.mp hd) (R:=fun z w1=>z = .slice b l.length l.length ∧ w1 = w) (Zw ?_ ⟨rfl,rfl⟩) fun z w1 fr hz hF'=>?_
 ·simp [execOp,Instr.sliceAt,Instr.slice,Instr.sliceBounds,Instr.sliceBound,asIntOf,Zr hF hx,Zr hF hhi,Zr hF hmx,run_underlying ht,he.sizeOf,hln,hc1,e0]
 ·obtain ⟨rfl, rfl⟩ := hz
  exact h fr ⟨hF',S,F,hM,hs,hf.add (RV.mk_slice (Zm9 _) (Zn2 hc1 hc2) fun hne=>by
   obtain ⟨ad,e1,e2,e3⟩:=hc3 hne
   exact ⟨ad,e1,e2.elim id fun h=>h.elim,Zdv (fun k _ h=>⟨rfl,h.elim id fun h=>h.elim⟩) e2 e3⟩)⟩
end
section
variable {α:Type} [Flat α] {w:World} {E:TypeId}
theorem Ze3 {P:Program} {t ty:TypeId} (ht:P.underlying t = some (.slice E)) (hE:ElT P E α) {Fl Fr:Nat → Prop} {b:Option Addr} {u:Value} {l m:List α} (hl:RV w Fl (.slice b l.length l.length) l) (hu:RV w Fr u m) (hm:m ≠ []) (hroom:l.length + m.length ≤ room) :
  ∃ a' c' w',(Builtin.append_ #[t,t] ty #[.slice b l.length l.length,u]).run P w = .ok (.slice a' (l ++ m).length c') w' ∧ (SL E (.slice a' (l ++ m).length c') (l ++ m)).ok w' (fun k=>w.heap.size ≤ k) ∧ Chg Non w w':=by
 by_cases hl0:l = []
 ·subst hl0
  obtain ⟨v',w',hrun,hok',hc⟩:=Zcq (P:=P) (ty:=ty) (v:=b) ht hE hu (by simpa using hroom)
  have hsl:∃ a' c',v' = .slice a' m.length c':=by
   rcases hok' with ⟨go,ho⟩ | ⟨rfl,a',rfl⟩
   ·exact ho.slice
   ·exact ⟨a',0,rfl⟩
  obtain ⟨a',c',rfl⟩:=hsl
  exact ⟨a',c',w',hrun,hok',hc⟩
 obtain ⟨i,z,hi,hz,hsz,hzs,hby⟩:=hE.out
 obtain ⟨b',cap',e,hc1,hc2,hc3⟩:=hl.slice
 obtain ⟨rfl,_,rfl⟩:=Value.slice.inj e
 obtain ⟨bd,rfl,_,he⟩:=hc3 hl0
 obtain ⟨css,g1,g2⟩:=ZbG he
 obtain ⟨ad,cap,rfl,hcap,hmax,hcells⟩:=hu.slice
 obtain ⟨ad,rfl,_,he'⟩:=hcells hm
 obtain ⟨cssm,k1,k2⟩:=ZbG he'
 have hpos:0 < m.length:=by
  cases m with
  | nil=>exact absurd rfl hm
  | cons=>simp
 unfold room at hroom
 have hb1:(l.length + m.length) * i.bytes ≤ 4294967296 * 32768:=ZoE hroom hby
 have hfl:css.flatten.length = l.length * i.size:=by rw [hsz]; exact g1.flat_len
 have hfm:cssm.flatten.length = m.length * i.size:=by rw [hsz]; exact k1.flat_len
 have e2:=run_append_grow (P:=P) w t ty E i z ht hi hz bd l.length l.length css.flatten hfl (fun j x hx=>by simpa using g2 j x hx) ad m.length cap cssm.flatten hfm (fun j x hx=>by simpa using k2 j x hx) (by omega) (by omega)
  (growslice_fits (by omega) (by omega))
 have hge:=grownCap_ge w (l.length + m.length) l.length E
 have hcm:grownCap w (l.length + m.length) l.length E ≤ maxLen:=grownCap_le_maxLen w (l.length + m.length) l.length E (by simp only [maxLen]; omega)
 have hlen:(l ++ m).length = l.length + m.length:=ZmM
 refine ⟨some ⟨w.heap.size,0,none⟩,grownCap w (l.length + m.length) l.length E,_,by rw [hlen]; exact e2,.inl ⟨some w.heap.size,fun _=>False,css ++ cssm,?_,⟨?_,.inr ⟨w.heap.size,_,_,rfl,Zn1 _,heap_alloc_new w.drew _,by rw [hlen]; exact hge,hcm,?_,?_⟩⟩,rfl,?_,fun k hk=>hk.elim⟩,?_⟩
 ·exact Css.append ⟨g1.1,fun i cs x hi hx=>Flat.iff.2 (Flat.iff.1 (g1.2 i cs x hi hx))⟩ ⟨k1.1,fun i cs x hi hx=>Flat.iff.2 (Flat.iff.1 (k1.2 i cs x hi hx))⟩
 ·rw [ZnP,ZmM,hfl,hfm,hlen,hsz,ZnT]
 ·simp only [Array.size_append, Zok, size_zeroCells, hfl, hfm, hsz, hzs, ← ZnT]
  congr 1
  omega
 ·simp only [Array.toList_append, Zn3]
  rw [← Zn3,← ZnP,hlen,← hsz,ZnT,← hfl,← hfm,← ZmM,← ZnP]
  exact List.take_left
 ·intro g hg
  cases hg
  exact ⟨Zm9 _,id⟩
 ·exact ⟨rfl,rfl,rfl,by simp,fun k hk _=>heap_alloc_old w.drew _ hk⟩
end
section
variable {ρ α:Type} [Flat ρ] [Rep α]
variable {P:Program} {B:Bs} {N:Nat} {σ:List (Nat × Value)} {Γ:List HP} {Φ:List RF} {a:Act} {w:World} {Q:Exit → Act → World → Prop} {ops:Array Oper} {k d:Nat} {t t' ty:TypeId} {x y:Operand} {pos:String} {af:Array Edge}
theorem Eapf [RawOf ρ α] {b:Option Addr} {u:Value} {xs ms r:List α} (E:TypeId) (c:Cx B N σ Γ Φ a w) (hl:Ava [] Φ w (RO (.slice b xs.length xs.length) xs)) (hu:Ava [] Φ w (RO u ms)) (hr:app? xs ms = some r)
  (h:∀ (rs:List ρ) a' c' fr w',Cx B N ((d,.slice a' r.length c') :: σ) (Γ ++ [SL E (.slice a' r.length c') rs]) (Φ ++ [CS rs r]) fr w' → wpFrom P ops Q (k + 1) fr w') (hm:ms ≠ []:=by exact List.cons_ne_nil _ _)
  (ho:ops[k]? = some ⟨some d,.call ⟨.builtin .append,#[x,y],#[t,t']⟩,ty,pos,af,none⟩:=by rfl) (htt:t' = t:=by rfl) (hd:Nat.blt d N = true:=by rfl) (he:ElT P E ρ:=by refine elT ?_; kernel_rfl) (ht:P.underlying t = some (.slice E):=by kernel_rfl)
  (hx:opd σ x = some (.slice b xs.length xs.length):=by kernel_rfl) (hy:opd σ y = some u:=by kernel_rfl):wpFrom P ops Q k a w:=by
 obtain ⟨hF,S,F,hM,hs,hf⟩:=c
 subst htt
 obtain ⟨rl,f1,f2⟩:=Zfd (ρ:=ρ) (hl.ro hf)
 obtain ⟨rm,g1,g2⟩:=Zfd (ρ:=ρ) (hu.ro hf)
 have hl1:rl.length = xs.length:=by simpa using f2.1
 have hl2:rm.length = ms.length:=by simpa using g2.1
 obtain ⟨h1,h2⟩:=app?_raw (l':=rl) (m':=rm) hr hl1 hl2
 unfold app? at h1
 split at h1
 ·rename_i hroom
  have hne:rm ≠ []:=fun e=>by rw [e] at hl2; exact hm (ZnG hl2.symm)
  rw [← hl1] at f1 hx
  obtain ⟨a',c',w',hrun,hok,hc⟩:=Ze3 (P:=P) (ty:=ty) ht he f1 g1 hne hroom
  obtain ⟨S',hp,hs'⟩:=hs.new hM hc hok
  have hlen:(rl ++ rm).length = r.length:=by rw [h2]; simp [hl1,hl2]
  have hcs:=Zfk f2 g2
  rw [← h2] at hcs
  have hcs':Css w' F ((rl ++ rm).map Flat.enc) r:=hcs.keep fun k hk hf=>⟨hp.chg.block k hk fun hS=>hM.dj k hS hf,hf⟩
  refine ZQ hF ho rfl rfl (ZmT.mp hd) (R:=fun z w1=>z = .slice a' (rl ++ rm).length c' ∧ w1 = w') (Zw ?_ ⟨rfl,rfl⟩) fun z w1 fr hz hF'=>?_
  ·simp [execOp,resolve,invoke,builtin,Zr hF hx,Zr hF hy,hrun]
  ·obtain ⟨rfl, rfl⟩ := hz
   rw [hlen] at hs' hF'
   exact h (rl ++ rm) a' c' fr _ ⟨hF',S',F,hM.stp hp,Z9 (Γ2:=[_]) hs',(hf.chg hp.chg fun k hk hS=>hM.dj k hS hk).add (R:=CS (rl ++ rm) r) hcs'⟩
 ·cases h1
end
section
def EW (w:World) (α:Type) [Rep α] (v:Value) (n:Int) (p:Addr) (u:Value):Prop:=∃ F,(EA α v n p u).ok w F
variable {ρ α:Type} [Flat ρ] [Rep α]
variable {P:Program} {B:Bs} {N:Nat} {σ:List (Nat × Value)} {Γ:List HP} {Φ:List RF} {a:Act} {w:World} {K:Act → World → Prop} {Q:Exit → Act → World → Prop} {ops:Array Oper} {pds:List Pd} {j:Nat}
theorem Cx.elo [RawOf ρ α] {E:TypeId} {v:Value} {rs:List ρ} {xs:List α} {n:Int} {x:α} (i k:Nat) (c:Cx B N σ Γ Φ a w) (hx:get? xs n = some x) (hi:Γ[i]? = some (SL E v rs):=by rfl) (hk:Φ[k]? = some (CS rs xs):=by rfl):∃ p u,EW w α v n p u ∧ Cx B N σ Γ (Φ ++ [RO u x]) a w:=by
 obtain ⟨hF,S,F,h1,h2,h3⟩:=c
 have hc:=h3.get hk
 obtain ⟨q',g1,_⟩:=Zld hc (get?_at hx)
 have hz':get? rs n = some q':=by unfold get?; rw [Zm6 (get?_nn hx)]; exact g1
 obtain ⟨A,hA,_⟩:=h2.get i hi
 have hr:=(h2.rv i hi)
 obtain ⟨b,cap,rfl,e1,e2,e3⟩:=RV.slice hr
 have hn:=get?_nn hx
 have hat:=get?_at hz'
 have hlt:n.toNat < rs.length:=(Zm8.1 hat).1
 obtain ⟨ad,rfl,hFb,hel⟩:=e3 (by rintro rfl; simp at hlt)
 obtain ⟨cs,hok,hcl⟩:=Zcn hel hat
 have hcl:Cells w (ad.add (n.toNat * Rep.sz ρ)) cs:=by simpa using hcl
 have ecs:cs = Flat.enc q':=Flat.iff.1 hok
 have hok':Rep.ok w F (Flat.enc q') x:=hc.2 _ _ x (by rw [ZmW,g1]; rfl) (get?_at hx)
 have hne:cs ≠ []:=by
  have h4:=Rep.len hok
  have h5:=Rep.pos (α:=ρ)
  rintro rfl
  simp at h4; omega
 have hb:(ad.add (n.toNat * Rep.sz ρ)).block < w.heap.size:=hcl.lt hne
 subst ecs
 rw [RawOf.sz (ρ:=ρ) (α:=α)] at hcl hb
 exact ⟨ad.add (n.toNat * Rep.sz α),Rep.val α (Flat.enc q'),⟨fun _=>True,⟨ad,_,_,rfl,rfl,hn,by omega⟩,_,rfl,Rep.len hok',hcl,trivial,hb⟩,hF,S,F,h1,h2,h3.add (R:=RO _ x) ⟨_,hok',rfl⟩⟩
theorem NieW {draw:Bool} {ms:List Nat} {dst:Option Tmp} {t ty:TypeId} {pos:String} {af:Array Edge} {g:Option (Nat × Bool)} {x y:Operand} {α:Type} [Rep α] {e:TypeId} {v u:Value} {n:Int} {p:Addr} (c:Cx B N σ Γ Φ a w) (hk:EW w α v n p u)
  (ho:ops[j]? = some ⟨dst,.indexAddr t x y,ty,pos,af,g⟩:=by rfl) (ht:P.underlying t = some (.slice e):=by rfl) (he:Ty P e α:=by constructor <;> kernel_rfl) (hx:envP ops σ pds j x = some v:=by kernel_rfl) (hy:numOf (envP ops σ pds j y) = some n:=by kernel_rfl) (hG:Good ops pds []) (hpd:pds.getD j .any = .eq (.pointer (some p))):NPB P draw ms ops pds a w Q j:=by
 obtain ⟨F,⟨ad,len,cap,rfl,rfl,hn,hlt⟩,_⟩:=hk
 obtain ⟨kd,hy⟩:=Y9 hy
 refine ZcF _ ho hG c.fr fun a' w' _ hg hv _=>?_
 have h1:=hv x _ (by simp [Op.operands]) hx
 have h2:=hv y _ (by simp [Op.operands]) hy
 refine Zw (v:=.pointer (some (ad.add (n.toNat * Rep.sz α)))) (w':=w') ?_ (by rw [hpd]; exact ⟨rfl,Chg.refl _ _⟩)
 simp [execOp,Instr.indexAt,h1,h2,asIntOf,run_underlying ht,hn,hlt,he.sizeOf]
theorem NleW {draw:Bool} {ms:List Nat} {dst:Option Tmp} {t ty:TypeId} {pos:String} {af:Array Edge} {g:Option (Nat × Bool)} {x:Operand} {α:Type} [Rep α] {v u:Value} {n:Int} {p:Addr} (c:Cx B N σ Γ Φ a w) (hk:EW w α v n p u)
  (ho:ops[j]? = some ⟨dst,.load t x,ty,pos,af,g⟩:=by rfl) (ht:Ty P t α:=by constructor <;> kernel_rfl) (hx:envP ops σ pds j x = some (.pointer (some p)):=by kernel_rfl) (hG:Good ops pds []) (hpd:pds.getD j .any = .eq u):NPB P draw ms ops pds a w Q j:=by
 obtain ⟨F,_,cs,rfl,hl,hc,_⟩:=hk
 refine ZcF _ ho hG c.fr fun a' w' hC hg hv _=>?_
 have h1:=hv x _ (by simp [Op.operands]) hx
 refine Zw (v:=Rep.val α cs) (w':=w') ?_ (by rw [hpd]; exact ⟨rfl,Chg.refl _ _⟩)
 simp [execOp,Instr.loadAt,h1,Instr.sureAddr,YF ht hl (hc.ext hC)]
end
section
def EP (α:Type) [Rep α] (v:Value) (n:Int) (p:Addr):Prop:=∃ ad len cap,v = .slice (some ad) len cap ∧ p = ad.add (n.toNat * Rep.sz α) ∧ 0 ≤ n ∧ n < ((len:Nat):Int)
variable {ρ α:Type} [Flat ρ] [Rep α]
variable {P:Program} {B:Bs} {N:Nat} {σ:List (Nat × Value)} {Γ:List HP} {Φ:List RF} {a:Act} {w:World} {Q:Exit → Act → World → Prop} {ops:Array Oper} {pds:List Pd} {j k d i:Nat} {t t' ty:TypeId} {x y z:Operand} {pos:String} {af:Array Edge} {v:Value} {n:Int} {p:Addr} {E:TypeId}
theorem EP.one {p':Addr} (h:EP α v n p) (h':EP α v n p'):p = p':=by
 obtain ⟨ad,len,cap,rfl,rfl,_⟩:=h
 obtain ⟨ad',len',cap',e,rfl,_⟩:=h'
 obtain ⟨e1,_,_⟩:=Value.slice.inj e
 cases e1; rfl
theorem Cx.epo [RawOf ρ α] {rs:List ρ} {xs:List α} {x:α} (i k:Nat) (c:Cx B N σ Γ Φ a w) (hx:get? xs n = some x) (hi:Γ[i]? = some (SL E v rs):=by rfl) (hk:Φ[k]? = some (CS rs xs):=by rfl):∃ p,EP α v n p:=by
 obtain ⟨p,u,⟨F,h,_⟩,_⟩:=c.elo i k hx hi hk
 exact ⟨p,h⟩
theorem qIo {S:List (Nat × Value)} (h:EP α v n p) (ho:ops[i]? = some ⟨some d,.indexAddr t x y,ty,pos,af,none⟩:=by rfl) (hdN:Nat.blt d N = true:=by rfl) (ht:P.underlying t = some (.slice E):=by rfl) (he:Ty P E α:=by constructor <;> kernel_rfl) (hx:opd S x = some v:=by kernel_rfl) (hy:numOf (opd S y) = some n:=by kernel_rfl)
  (a:Act) (w:World) (c:Cx B N S Γ Φ a w):wpOp P ops Q i (fun a' w'=>Cx B N ((d,.pointer (some p)) :: S) Γ Φ a' w') a w:=by
 obtain ⟨ad,len,cap,rfl,rfl,hn,hlt⟩:=h
 obtain ⟨kd,hy⟩:=Y9 hy
 have h1:=Zr c.fr hx
 have h2:=Zr c.fr hy
 refine qV ho rfl rfl hdN c (Zw (v:=.pointer (some (ad.add (n.toNat * Rep.sz α)))) (w':=w) ?_ ⟨rfl,rfl⟩)
 simp [execOp,Instr.indexAt,h1,h2,asIntOf,run_underlying ht,hn,hlt,he.sizeOf]
theorem Eldo [RawOf ρ α] {rs:List ρ} {xs:List α} {q:α} (i j:Nat) (c:Cx B N σ Γ Φ a w) (he:EP α v n p) (hz:get? xs n = some q) (h:∀ u fr,Cx B N ((d,u) :: σ) Γ (Φ ++ [RO u q]) fr w → wpFrom P ops Q (k + 1) fr w) (hi:Γ[i]? = some (SL E v rs):=by rfl) (hj:Φ[j]? = some (CS rs xs):=by rfl)
  (ho:ops[k]? = some ⟨some d,.load t x,ty,pos,af,none⟩:=by rfl) (hd:Nat.blt d N = true:=by rfl) (ht:Ty P t α:=by constructor <;> kernel_rfl) (hx:opd σ x = some (.pointer (some p)):=by kernel_rfl):wpFrom P ops Q k a w:=by
 obtain ⟨p',u,⟨F,hep,cs,rfl,hl,hc,_⟩,c⟩:=c.elo i j hz hi hj
 obtain rfl:=he.one hep
 refine ZQ c.fr ho rfl rfl (ZmT.mp hd) (R:=fun z w1=>z = Rep.val α cs ∧ w1 = w) (Zw ?_ ⟨rfl,rfl⟩) fun z w1 fr hz hF'=>?_
 ·simp [execOp,Instr.loadAt,Zr c.fr hx,Instr.sureAddr,YF ht hl hc]
 ·obtain ⟨rfl, rfl⟩ := hz
  exact h _ fr (c.to hF')
theorem Esetp [RawOf ρ α] {rs:List ρ} {xs r:List α} {q:ρ} {e:α} (i j:Nat) (c:Cx B N σ Γ Φ a w) (hep:EP α v n p) (hx:Ava [] Φ w (RO (Rep.val ρ (Flat.enc q)) e)) (hr:set? xs n e = some r)
  (h:∀ fr w',Cx B N σ (Γ.set i (SL E v (rs.set n.toNat q))) (Φ ++ [CS (rs.set n.toNat q) r]) fr w' → wpFrom P ops Q (k + 1) fr w') (hi:Γ[i]? = some (SL E v rs):=by rfl) (hj:Φ[j]? = some (CS rs xs):=by rfl)
  (ho:ops[k]? = some ⟨none,.store E x z,ty,pos,af,none⟩:=by rfl) (he:Ty P E ρ:=by constructor <;> kernel_rfl) (hp:opd σ x = some (.pointer (some p)):=by kernel_rfl) (hq:opd σ z = some (Rep.val ρ (Flat.enc q)):=by kernel_rfl):wpFrom P ops Q k a w:=by
 obtain ⟨F0,h0⟩:=c.use (Ava.f j hj)
 have hl:rs.length = xs.length:=by simpa using h0.1
 obtain ⟨h1,h2,h3⟩:=set?_raw q hr hl
 have c:=c.fad (Rf:=CS (rs.set n.toNat q) r) fun F hf=>by
  rw [h2]; exact Zil (hf.get hj) (Zfc (hx.ro hf))
 unfold set? at h1
 split at h1
 ·rename_i hn
  obtain ⟨hF,S,F,hM,hs,hf⟩:=c
  obtain ⟨A,hok,hup⟩:=hs.upd i hi hM
  rcases hok with ⟨go,hown⟩ | ⟨rfl,_,_⟩
  ·obtain ⟨g, w', hgo, ⟨cc, hv⟩, hrun, g1, g2⟩ := hown.set_run (P := P) he (Fr := Non) (u := Rep.val ρ (Flat.enc q)) (x := q) ⟨_, Flat.iff.2 rfl, rfl⟩ (Fu := Non) ZcU (fun _ _ h => h.elim) (n := n.toNat) hn.2
   obtain ⟨ad,len,cap,e1,rfl,_⟩:=hep
   rw [hv] at e1
   obtain ⟨e2,_,_⟩:=Value.slice.inj e1
   cases e2
   rw [← RawOf.sz (ρ:=ρ) (α:=α)] at hp
   obtain ⟨S',hpp,hs'⟩:=hup (P':=SL E v (rs.set n.toNat q)) (g2.mono fun k hk=>hown.inG hk) (.inl ⟨go,g1.regard fun k _ hk=>.inl hk⟩)
   refine Zct hF ho rfl rfl (R:=fun _ w2=>w2 = w') (ZbK ?_ rfl) fun w2 hw2 hF2=>?_
   ·simp [execOp,Instr.storeAt,Zr hF hp,Zr hF hq,Instr.sureAddr,hrun]
   ·obtain ⟨_, rfl⟩ := hw2
    exact h _ _ ⟨hF2,S',F,hM.stp hpp,hs',hf.chg hpp.chg fun k hk hS=>hM.dj k hS hk⟩
  ·simp at hn
 ·cases h1
end
section
variable {P:Program} {B:Bs} {N:Nat} {σ:List (Nat × Value)} {Γ:List HP} {Φ:List RF} {a:Act} {w:World} {Q:Exit → Act → World → Prop}
  {draw:Bool} {ms:List Nat} {ops:Array Oper} {pds:List Pd} {j:Nat} {dst:Option Tmp} {g:Option (Nat × Bool)} {t ty:TypeId} {y:Operand} {pos:String} {af:Array Edge}
end
instance {α:Type} [Rep α]:RawOf Hd (List α) where
 sz:=rfl
 agg:=rfl
 ex:=fun {w F cs x} h=>by
  have h1:RV w F (Rep.val (List α) cs) x:=⟨cs,h,rfl⟩
  obtain ⟨a,c,e,_⟩:=RV.slice h1
  have hl:=Rep.len h
  match cs,hl with
  | [u],_=>exact ⟨⟨a,x.length,c⟩,by rw [show u = .slice a x.length c from e]; rfl⟩
section
variable {P:Program} {K V:TypeId} {κ ρ α:Type} [Flat κ] [Flat ρ] [Rep α] [RawOf ρ α] [DecidableEq κ]
variable {B:Bs} {N:Nat} {σ:List (Nat × Value)} {Γ:List HP} {Φ:List RF} {a:Act} {w:World} {Q:Exit → Act → World → Prop} {T:MapT P K V κ ρ} {own:ρ → α → HP}
  {ops:Array Oper} {k d b:Nat} {t ty:TypeId} {pos:String} {af:Array Edge} {x y z:Operand} {v:Value}
end
section
variable {P:Program} {B:Bs} {N:Nat} {σ:List (Nat × Value)} {Γ:List HP} {Φ:List RF} {a:Act} {w:World} {Q:Exit → Act → World → Prop}
  {ops:Array Oper} {k d:Nat} {t t' ty:TypeId} {pos:String} {af:Array Edge} {x y:Operand} {α:Type} [Flat α] {E:TypeId} {l r m:List α} {b a':Option Addr} {n0 cp c':Nat} {lo n:Int} {u:Value}
end
section
variable {P:Program} {B:Bs} {N:Nat} {σ:List (Nat × Value)} {Γ:List HP} {Φ:List RF} {a:Act} {w:World} {Q:Exit → Act → World → Prop}
  {ops:Array Oper} {k d d2:Nat} {t t' ty ty':TypeId} {pos pos':String} {af af':Array Edge} {x y:Operand} {E E':TypeId} {l r m:List Int} {v u:Value} {rs:List Hd} {xs:List (List Int)}
end
section
variable {P:Program} {B:Bs} {N:Nat} {σ:List (Nat × Value)} {Γ:List HP} {Φ Φ1:List RF} {a:Act} {w:World} {Q:Exit → Act → World → Prop}
  {draw:Bool} {ms:List Nat} {ops:Array Oper} {pds:List Pd} {j:Nat} {dst:Option Tmp} {g:Option (Nat × Bool)} {ty:TypeId} {x:Operand} {pos:String} {af:Array Edge}
end
end Go.GL
end
