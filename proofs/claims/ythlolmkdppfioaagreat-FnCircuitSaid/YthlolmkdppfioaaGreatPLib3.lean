/- Texts of this claim put into one: library or plain laws, without the program under test. -/
import Derived.Test.YthlolmkdppfioaaGreatPLib2
set_option linter.unusedSimpArgs false
set_option linter.unusedVariables false
section
namespace Go.Proofs.YthlolmkdppfioaaGreat
open Go.GL
open Cc (BS LS CircP Grow GoodL litN lines ZE litV ev vB Yl opB bi)
set_option linter.unusedSimpArgs false
set_option maxRecDepth 100000
def inB (l:List D.Value):List Bool:=l.flatMap fun x=>(List.range x.W.toNat).reverse.map (bitI x.N)
def ky (v:D.Value):Str × Int:=(v.Name,v.W)
theorem Zgg (v:D.Value) (l:List D.Value):inB (v :: l) = (List.range v.W.toNat).reverse.map (bitI v.N) ++ inB l:=rfl
theorem ZeQ:∀ {vs ws:List D.Value} {a:Int} {s:Str},vs.map ky = ws.map ky → atV vs a s = atV ws a s
 | [],[],a,s,_=>rfl
 | v :: vs,w :: ws,a,s,h=>by
  simp only [ZlA,List.cons.injEq,ky,Prod.mk.injEq] at h
  unfold atV
  rw [h.1.1,h.1.2,ZeQ (a:=a + w.W) h.2]
theorem Zho:∀ (l:List D.Value) (a:Nat) (E:List Bool),(∀ v ∈ l,1 ≤ v.W) → (l.Pairwise fun x y=>x.Name ≠ y.Name) → (∀ j,j < (inB l).length → E[a + j]? = (inB l)[j]?) → ∀ x ∈ l,∀ k,k < x.W.toNat → ∃ i:Nat,atV l (a:Int) x.Name = (i:Int) ∧ k + 1 ≤ i ∧ E[i - k - 1]? = some (bitI x.N k)
 | [],_,_,_,_,_,x,hx,_,_=>by cases hx
 | v :: l,a,E,h1,hp,hE,x,hx,k,hk=>by
  rw [Znj] at hp
  have hv:=h1 v (by simp)
  have hlen:((List.range v.W.toNat).reverse.map (bitI v.N)).length = v.W.toNat:=by simp
  rw [Zgg] at hE
  unfold atV
  by_cases c:v.Name = x.Name
  ·rw [Zl7 (by rw [c]; exact Zeh _)]
   have hxv:x = v:=by
    rcases Zmd.1 hx with h | h
    ·exact h
    ·exact absurd c (hp.1 x h)
   subst hxv
   refine ⟨a + x.W.toNat,by omega,by omega,?_⟩
   have:=hE (x.W.toNat - 1 - k) (by rw [ZlF,hlen]; omega)
   rw [show a + x.W.toNat - k - 1 = a + (x.W.toNat - 1 - k) by omega,this,ZlL (by rw [hlen]; omega),ZlS,List.getElem?_reverse (by simp; omega),Zoc,Zno (by omega),show x.W.toNat - 1 - (x.W.toNat - 1 - k) = k by omega]
   rfl
  ·rw [Zl4 (by rw [Zbh]; simpa using c)]
   have hxl:x ∈ l:=(Zmd.1 hx).resolve_left fun h=>c (by rw [h])
   obtain ⟨i,g1,g2,g3⟩:=Zho l (a + v.W.toNat) E (fun y hy=>h1 y (by simp [hy])) hp.2 (fun j hj=>by
    have:=hE (v.W.toNat + j) (by rw [ZlF,hlen]; omega)
    rw [show a + v.W.toNat + j = a + (v.W.toNat + j) by omega,this,ZlD (by rw [hlen]; omega),hlen,show v.W.toNat + j - v.W.toNat = j by omega]) x hxl k hk
   refine ⟨i,?_,g2,g3⟩
   rw [← g1]
   congr 1; omega
structure Vls (L l:List D.Value):Prop where
 ky:l.map ky = L.map ky
 word:∀ x ∈ l,0 ≤ x.N ∧ x.N < 2 ^ x.W.toNat
theorem Zfr {L l:List D.Value} (h:l.map ky = L.map ky) {x:D.Value} (hx:x ∈ l):∃ v ∈ L,v.Name = x.Name ∧ v.W = x.W:=by
 have:Go.Proofs.YthlolmkdppfioaaGreat.ky x ∈ L.map Go.Proofs.YthlolmkdppfioaaGreat.ky:=h ▸ List.mem_map_of_mem hx
 obtain ⟨v,hv,e⟩:=Zm6.1 this
 simp only [Go.Proofs.YthlolmkdppfioaaGreat.ky,Prod.mk.injEq] at e
 exact ⟨v,hv,e⟩
theorem Zk8 {L l:List D.Value} (h:l.map ky = L.map ky) {R:Str → Str → Prop} (hp:L.Pairwise fun x y=>R x.Name y.Name):l.Pairwise fun x y=>R x.Name y.Name:=by
 have h1:l.map (·.Name) = L.map (·.Name):=by
  have:=congrArg (List.map Prod.fst) h
  rw [ZmD,ZmD] at this
  exact this
 have h2:(L.map (·.Name)).Pairwise R:=Zoe.2 hp
 rw [← h1] at h2
 exact Zoe.1 h2
theorem ZkQ {l:List D.Value} (hp:l.Pairwise fun x y=>x.Name ≠ y.Name) {x:D.Value} (hx:x ∈ l):fnd l x.Name = some x:=by
 induction l with
 | nil=>cases hx
 | cons y l ih=>
  rw [Znj] at hp
  rw [Zjl]
  rcases Zmd.1 hx with rfl | hx
  ·rw [Zl7 rfl]
  ·rw [Zl4 (hp.1 x hx),ih hp.2 hx]
theorem Zll {t:D.Term} {L l:List D.Value} {E:List Bool} (hL:VL t L) (hw:∀ v ∈ L,1 ≤ v.W ∧ v.W ≤ 16) (h:Vls L l) (hE:[true] ++ inB l <+: E):∀ p ∈ vrs t,EV L l E p:=by
 intro p hp
 obtain ⟨v,hv,v1,v2⟩:=hL.all p hp
 obtain ⟨x,hx,e1,e2⟩:=Zfr h.ky.symm hv
 have hpl:=Zk8 h.ky (R:=fun a b=>a ≠ b) hL.nm
 have hwl:∀ y ∈ l,1 ≤ y.W:=fun y hy=>by
  obtain ⟨z,hz,-,z2⟩:=Zfr h.ky hy
  have:=hw z hz
  omega
 have hxw:=h.word x hx
 refine ⟨x,?_,by rw [e2,v2],hxw.1,hxw.2,?_⟩
 ·rw [← v1,← e1]; exact ZkQ hpl hx
 ·obtain ⟨T, rfl⟩ := hE
  unfold varL
  rw [ZmD]
  refine ZmM fun k hk=>?_
  have hk:=ZlR.1 hk
  simp only [Function.comp]
  obtain ⟨i,g1,g2,g3⟩:=Zho l 1 ([true] ++ inB l ++ T) hwl hpl (fun j hj=>by
   rw [ZlL (by simp; omega),ZlD (by simp),show 1 + j - [true].length = j by simp]) x hx k (by rw [e2,v2]; exact hk)
  rw [← v1,← e1,ZeQ h.ky.symm]
  rw [show ((1:Nat):Int) = 1 from rfl] at g1
  rw [g1]
  have hi:Cc.iab ((i:Int) - (k:Int)) = (i:Int) - k:=by unfold Cc.iab; rw [Zl4 (by omega)]
  unfold litV
  rw [Zl4 (by omega),hi,show ((i:Int) - (k:Int) - 1).toNat = i - k - 1 by omega,g3]
  rfl
theorem Zfm {L l:List D.Value} (h:l.map ky = L.map ky) (hw:∀ v ∈ L,1 ≤ v.W ∧ v.W ≤ 16):((inB l).length:Int) = bitsV L 0:=by
 have key:∀ (l L:List D.Value) (a:Int),l.map ky = L.map ky → (∀ v ∈ L,1 ≤ v.W ∧ v.W ≤ 16) → bitsV L a = a + ((inB l).length:Int):=by
  intro l
  induction l with
  | nil=>intro L a h _; cases L with
   | nil=>simp [bitsV,inB]
   | cons v L=>simp at h
  | cons x l ih=>
   intro L a h hw
   cases L with
   | nil=>simp at h
   | cons v L=>
    simp only [ZlA,List.cons.injEq,ky,Prod.mk.injEq] at h
    have h1:=hw v (by simp)
    rw [ZdR,ih L _ h.2 (fun y hy=>hw y (by simp [hy])),Zgg,ZlF,ZlW,List.length_reverse,Zoc,h.1.2]
    omega
 rw [key l L 0 h hw]; omega
theorem Ziq {t:D.Term} (hs:msz t ≤ 1048576) (hok:(circT t).2.2 = true):∃ L,Y0 fuel t = some L ∧ VL t L ∧ termB t = true ∧ (∀ v ∈ L,1 ≤ v.W ∧ v.W ≤ 16) ∧ L.length ≤ 30 ∧ CircP (circT t).1 ∧ (circT t).2.1.length = t.W.toNat ∧ (∀ x ∈ (circT t).2.1,litN (lines (circT t).1) x = true) ∧ bitsV L 0 = (circT t).1.Inputs ∧ bitsV L 0 ≤ 30 ∧
  ∀ l,Vls L l → ∀ n:Nat,1048900 ≤ n → Yx n t l = some ((vB ((circT t).2.1.map (litV (ev (circT t).1 (inB l)))):Int),true):=by
 by_cases h:termB t = true
 ·obtain ⟨L, e, hL, hn, hc, hw, hnm, hlen, hb0⟩ := Zcg h hs
  unfold circT at hok ⊢
  rw [Zl7 h,e] at hok
  rw [Zl7 h,e]
  simp only [Zmm] at hok ⊢
  by_cases hf:bitsV L 0 > 30 ∨ (nP L t (⟨bitsV L 0,[]⟩,false)).2.2 = true
  ·rw [Zl7 hf] at hok; cases hok
  rw [Zl4 hf]
  have hf1:¬ bitsV L 0 > 30:=fun q=>hf (.inl q)
  have hf2:(nP L t (⟨bitsV L 0,[]⟩,false)).2.2 = false:=by
   cases q:(nP L t (⟨bitsV L 0,[]⟩,false)).2.2
   ·rfl
   ·exact absurd (.inr q) hf
  have hC:=Zcu hb0 (by omega)
  have hv:VF L (⟨bitsV L 0,[]⟩ : D.Circuit):=⟨fun v hv=>(hw v hv).1,rfl⟩
  have g:=Zbd hL.nm _ t (⟨bitsV L 0,[]⟩,false) (ZlG _) hn hL.all hC hv
  have f:=Zlk hL.nm _ t (⟨bitsV L 0,[]⟩,false) (ZlG _) hn hL.all hC hv
  have hwd:wideB t = false:=by
   cases q:wideB t
   ·rfl
   ·rw [Ze8 hL.nm _ t (⟨bitsV L 0,[]⟩,false) (ZlG _) hn q hL.all hC hv] at hf2; cases hf2
  generalize nP L t (⟨bitsV L 0,[]⟩,false) = r at g f hf2
  have hin:r.2.1.Inputs = bitsV L 0:=g.grow.1
  have hlen30:L.length ≤ 30:=by
   have:∀ (M:List D.Value) (a:Int),(∀ v ∈ M,1 ≤ v.W ∧ v.W ≤ 16) → a + (M.length:Int) ≤ bitsV M a:=by
    intro M
    induction M with
    | nil=>intro a _; simp [bitsV]
    | cons v M ih=>
     intro a hM
     have:=ih (a + v.W) (fun y hy=>hM y (by simp [hy]))
     have:=(hM v (by simp)).1
     rw [ZdR,ZlP]
     omega
   have:=this L 0 hw
   omega
  refine ⟨L,rfl,hL,h,hw,hlen30,g.circ,g.len,g.lits,hin.symm,by omega,fun l hl n hn'=>?_⟩
  have hil:=Zfm hl.ky hw
  have hsem:=f.sem hf2 r.2.1 g.circ (Grow.refl _) (inB l) (by rw [hil,hin])
  rw [hsem]
  have hll:l.length ≤ 30:=by
   have:=congrArg List.length hl.ky
   rw [ZlW,ZlW] at this
   omega
  have hpre:[true] ++ inB l <+: ev r.2.1 (inB l):=by
   have:=Cc.outV_pre (c:=r.2.1) (v:=inB l) (k:=0) (ZmI _)
   simpa [Cc.outV'] using this
  exact (Zka (vs:=L) (l:=l) (E:=ev r.2.1 (inB l)) hll (cnt t) t (ZlG _) hn hwd (Zll hL hw hl hpre) n (by omega)).1
 ·unfold circT at hok
  rw [Zl4 h] at hok; cases hok
open Cc (BS LS CircP Grow GoodL litN lines ZE litV ev vB Yl opB bi CurOk YP Zgr)
theorem Zf1 {code:List Byt} (hl:code.length ≤ 1048576) {m:Int} (h0:0 ≤ m) {L:List D.Value} (hL:L.length ≤ 1000) (hw:∀ v ∈ L,1 ≤ v.W ∧ v.W ≤ 16):∃ l,Xf fuel code m L = some l ∧ Vls L l:=by
  unfold Xf
  obtain ⟨i,h,e,ok⟩:=Zgr (fuel:=fuel) hl h0
  rw [e]
  simp only [Zl0]
  obtain ⟨r,g1,g2⟩:=Cc.iterN_upE0 (B:=fun (s1:Int × (List D.Value) × Int × Int)=>
      if (decide (s1.1 < (len L))) then
       (get? L s1.1).bind fun x2=>
       (Zn (D.l01Cur.mk code s1.2.2.1 s1.2.2.2) 256).bind fun x3=>
       (shl? 1 x2.W).bind fun x4=>
       (app? s1.2.1 ([(D.Value.mk x2.Name x2.W (band x3.1 (w64 (x4 - 1))))]:List D.Value)).bind fun x5=>
       some (.inl ((w64 (s1.1 + 1)),x5,x3.2.i,x3.2.h))
      else
       some (.inr (s1.2.1,s1.2.2.1,s1.2.2.2)))
    (I:=fun k s=>s.1 = (k:Int) ∧ CurOk ⟨code,s.2.2.1,s.2.2.2⟩ ∧ Vls (L.take k) s.2.1) (m:=L.length) (R:=fun r=>Vls L r.1)
    (fun k s hk ⟨hs,hc,hv⟩=>by
      obtain ⟨s1,s2,s3,s4⟩:=s
      simp only at hs hc hv ⊢
      subst hs
      rw [Zl7 (by rw [Za]; simp; omega),get?_nat,Zl1 hk]
      obtain ⟨x,i',h',e2,x0,x1,ok2⟩:=YP hc (n:=256) (by decide)
      have hwk:=hw _ (Zmj hk)
      obtain ⟨a1,_,a3,_,_⟩:=ZbO hwk.1 hwk.2
      simp only [Zl0,e2,a1]
      have hlen:s2.length ≤ 1000:=by
        have:=congrArg List.length hv.ky
        rw [ZlW,ZlW,Zl8] at this
        omega
      rw [Zfl (by simp; omega),a3]
      simp only [Zl0]
      refine ⟨_,rfl,by simp only; rw [Zd (by omega) (by omega)]; omega,ok2,?_,?_⟩
      · rw [ZlB hk,Zmh,Zmh,hv.ky]; rfl
      · intro y hy
        rcases ZlY.1 hy with hy | hy
        · exact hv.word y hy
        · rw [Zmo.1 hy]
          simp only
          rw [Ze0 x (by omega)]
          have hp:(0:Int) < 2 ^ (L[k].W.toNat):=by rw [cpow]; have:=Znz L[k].W.toNat; omega
          exact ⟨ZoI _ (by omega),Int.emod_lt_of_pos _ hp⟩)
    (fun s ⟨hs,hc,hv⟩=>by
      obtain ⟨s1,s2,s3,s4⟩:=s
      simp only at hs hc hv ⊢
      subst hs
      rw [Zl4 (by rw [Za]; simp)]
      rw [Zmc] at hv
      exact ⟨_,rfl,hv⟩) L.length 0 (0,[],i,h) (by omega) ⟨rfl,ok,by simp,by simp⟩ fuel (lt_fuel (by omega))
  rw [g1]
  exact ⟨_,rfl,g2⟩
theorem Zkr {a b:Str} (h:Str.ltb a b = true):Str.geb a b = false:=by
 rw [show Str.geb a b = !Str.ltb a b from rfl,h]; rfl
theorem Zil {t:D.Term} {L l:List D.Value} (hL:VL t L) (hn:nodeB t = true) (hw:∀ v ∈ L,1 ≤ v.W ∧ v.W ≤ 16) (h30:L.length ≤ 30) (h:Vls L l):XE fuel l = some true:=by
 have hll:l.length = L.length:=by
  have:=congrArg List.length h.ky
  rwa [ZlW,ZlW] at this
 have hso:L.Pairwise fun x y=>Str.ltb x.Name y.Name = true:=by
  have h1:=ZaD (vrs t).reverse
  rw [← hL.eq] at h1
  exact Zoe.1 h1
 have hsl:=Zk8 h.ky (R:=fun a b=>Str.ltb a b = true) hso
 unfold XE
 rw [ZV (I:=fun k s=>s = (k:Int)) (m:=l.length) (r:=(.inl ():Unit ⊕ Bool)) (fun k s hk hs=>?_) (fun s hs=>?_) l.length 0 0 (by omega) rfl fuel (lt_fuel (by omega))]
 ·simp only [Zl0]
  rw [Za]
  exact congrArg some (decide_eq_true (by omega))
 ·subst hs
  have hx:l[k] ∈ l:=Zmj hk
  obtain ⟨v,hv,v1,v2⟩:=Zfr h.ky hx
  have hnm:nameB l[k].Name = true:=by rw [← v1]; exact Zia hn _ (hL.mem v hv)
  have hwk:=hw v hv
  have hwd:=h.word _ hx
  have hwb:Z8 l[k].W l[k].N = some true:=by rw [ZbT,(ZdW (by omega) (by omega) _).2 hwd]
  refine ⟨_,?_,rfl⟩
  rw [Zl7 (by rw [Za]; simp; omega),get?_nat,Zl1 hk]
  have hb8:=ZhM hnm
  simp only [Zl0]
  rw [Zeo (by omega) (lt_fuel (by omega)),hnm]
  simp only [Zl0,ZlZ,Zl2,ZlC,hwb]
  by_cases c:(k:Int) > 0
  ·obtain ⟨j, rfl⟩ : ∃ j, k = j + 1 := ⟨k - 1, by omega⟩
   have hj:l[j]? = some l[j]:=Zl1 (by omega)
   rw [decide_eq_true c]
   simp only [ZlU,Znn,Zl2,ZlC]
   rw [Zd (by omega) (by omega),show (((j + 1:Nat)):Int) - 1 = (j:Int) by omega,get?_nat,hj]
   have hlt:=ZmT.1 hsl j (j + 1) (by omega) hk (by omega)
   simp only [Zl0,Zm7,Zmz,Zkr hlt,Zl2,ZlC]
   rw [Zd (by omega) (by omega)]; rfl
  ·rw [decide_eq_false c]
   simp only [Zl2,ZlC,Zl0,Znn,Zof]
   rw [Zd (by omega) (by omega)]; rfl
 ·subst hs
  rw [Zl4 (by rw [Za]; simp)]
theorem Zgv {t:D.Term} {L l:List D.Value} (hs:msz t ≤ 1048576) (ht:termB t = true) (hL:VL t L) (hw:∀ v ∈ L,1 ≤ v.W ∧ v.W ≤ 16) (h30:L.length ≤ 30) (h:Vls L l) {r:Int × Bool} (he:Yx fuel t l = some r):XD fuel t l = some r:=by
 have hn:nodeB t = true:=by
  unfold termB at ht
  simp only [Zl6,ZlE] at ht
  exact ht.1.2
 unfold XD
 rw [ZaN hs,ht]
 simp only [Zl0,ZlZ,Zl2,ZlC,Zil hL hn hw h30 h,Znn,he]
end Go.Proofs.YthlolmkdppfioaaGreat
end
