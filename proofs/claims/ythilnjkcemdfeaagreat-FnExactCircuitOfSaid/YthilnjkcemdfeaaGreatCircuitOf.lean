/- The plain law of this claim: CircuitOf. No program in sight. -/
import Derived.Test.YthilnjkcemdfeaaGreatPLib2
namespace Go.Proofs.YthilnjkcemdfeaaGreat
open Go.GL
open Cc (BS LS CircP Grow GoodL Good litN lines negs seqP ifP opP net RelB FOk FU)
set_option linter.unusedSimpArgs false
set_option maxRecDepth 100000
theorem Zjk:∀ n:Nat,(∀ t:D.Term,cnt t < n → nodeB t = true → ∀ p ∈ vrs t,1 ≤ p.2 ∧ p.2 ≤ 16 ∧ p.1.bytes.length ≤ 8):=by
 intro n
 induction n with
 | zero=>intro t h; omega
 | succ n ih=>
  intro t h hb p hp
  have hc:=Xq t
  rw [XU] at hp
  by_cases h22:t.Op = 22
  ·rw [Zj2 h22, Zkl] at hp
   subst hp
   have:=ZR hb
   exact ⟨this.1,this.2,(ZeG hb h22).1⟩
  ·rw [Zjz h22] at hp
   have:∀ l:List D.Term,(∀ x ∈ l,x ∈ t.Kids) → p ∈ vrss l → ∃ x ∈ t.Kids,p ∈ vrs x:=fun l=>by
    induction l with
    | nil=>intro _ h; rw [Zar] at h; cases h
    | cons y l ihl=>
     intro hm h
     rw [Xh,ZjN] at h
     rcases h with h | h
     ·exact ⟨y,hm y (by simp),h⟩
     ·exact ihl (fun z hz=>hm z (by simp [hz])) h
   obtain ⟨x,hx,hpx⟩:=this t.Kids (fun _ h=>h) hp
   exact ih x (by have:=Xd hx; omega) (nodeK hb x hx) p hpx
def c0:D.Circuit:=⟨0,[]⟩
def circT (t:D.Term):D.Circuit × List Int × Bool:=
 if termB t = true then
  let L:=(Y2 fuel t).getD []
  let r:=nP L t (⟨bitsV L 0,[]⟩,false)
  if bitsV L 0 > 30 ∨ r.2.2 = true then (c0,[],false) else (r.2.1,r.1,true)
 else (c0,[],false)
theorem Zb9 {b:Int} (h0:0 ≤ b) (h1:b ≤ 30):CircP ⟨b,[]⟩:=⟨h0,h1,by simp,fun k g hg=>by simp at hg⟩
section
variable {t:D.Term} (h:termB t = true) (hs:msz t ≤ 1048576)
include h hs
theorem Zbp:∃ L,Y2 fuel t = some L ∧ VL t L ∧ nodeB t = true ∧ cnt t ≤ 240 ∧ (∀ v ∈ L,1 ≤ v.W ∧ v.W ≤ 16) ∧ (∀ v ∈ L,v.Name.bytes.length ≤ 1000) ∧ L.length ≤ 1000 ∧ 0 ≤ bitsV L 0:=by
 obtain ⟨L,e,hL⟩:=Zfl h hs
 have hb:=h
 unfold termB at hb
 simp only [Zj0,Zj5] at hb
 obtain ⟨⟨hc,hn⟩,-⟩:=hb
 have hw:∀ v ∈ L,1 ≤ v.W ∧ v.W ≤ 16 ∧ v.Name.bytes.length ≤ 8:=fun v hv=>Zjk _ t (Nat.lt_succ_self _) hn _ (hL.mem v hv)
 have hlen:L.length ≤ 1000:=by
  have h1:=congrArg List.length hL.eq
  rw [Zlr] at h1
  have h2:=Zbz (vrs t).reverse
  rw [List.length_reverse] at h2
  have:=Zc1 t
  omega
 have hb0:=ZdV (l:=L) (a:=0) fun v hv=>(hw v hv).1
 exact ⟨L,e,hL,hn,hc,fun v hv=>⟨(hw v hv).1,(hw v hv).2.1⟩,fun v hv=>by have:=(hw v hv).2.2; omega,hlen,by unfold bitsV; omega⟩
end
theorem Zf2 {t:D.Term} (hs:msz t ≤ 1048576):YT fuel t = some (circT t):=by
 unfold YT circT
 by_cases h:termB t = true
 ·obtain ⟨L, e, hL, hn, hc, hw, hnm, hlen, hb0⟩ := Zbp h hs
  rw [e,Zbg hs,h]
  simp only [Zjv,Zkk,Zj1,ZjP,ZkJ,Zkd,Zka]
  rw [ZgO hlen hw]
  simp only [Zjv]
  by_cases hb:bitsV L 0 > 30
  ·rw [Zj2 (by simpa using hb),Zj2 (.inl hb)]; rfl
  ·rw [Zjz (by simpa using hb)]
   have hC:=Zb9 hb0 (by omega)
   rw [Cc.spec_new hC]
   simp only [Zjv]
   have hv:VF L (⟨bitsV L 0,[]⟩ : D.Circuit):=⟨fun v hv=>(hw v hv).1,rfl⟩
   rw [Zh3 hL.nm (fun v hv=>(hw v hv).2) fuel t (⟨bitsV L 0,[]⟩,false) (by unfold fuel; omega) hn hL.all hC hv]
   simp only [Zjv]
   have g:=Zbi hL.nm _ t (⟨bitsV L 0,[]⟩,false) (ZjF _) hn hL.all hC hv
   generalize nP L t (⟨bitsV L 0,[]⟩,false) = r at g ⊢
   have hw16:=ZR hn
   have hl:=g.len
   cases hf:r.2.2
   ·rw [Zjz (by decide), Zjz (by rintro (h | h); exact hb h; cases h)]
    rw [Za6 (by simp; omega)]; rfl
   ·rw [Zj2 rfl,Zj2 (.inr rfl)]; rfl
 ·have h' : termB t = false := by simpa using h
  have e:Y2 fuel t = some []:=by
   unfold Y2
   rw [Zbg hs,h']; rfl
  rw [e,Zbg hs,h',Zjz (by decide)]
  rfl
theorem Zfk {t:D.Term} (hs:msz t ≤ 1048576):YB fuel t = some (circT t):=by
 unfold YB circT
 rw [Zdw hs]
 simp only [Zjv]
 by_cases h:termB t = true
 ·obtain ⟨L, e, hL, hn, hc, hw, hnm, hlen, hb0⟩ := Zbp h hs
  rw [h]
  simp only [Zkk,Zj1,ZjP,ZkJ,Zkd]
  rw [ZgY fuel t (by unfold fuel; omega) hn]
  simp only [Zjv,e,Zka]
  have hv:VF L (⟨bitsV L 0,[]⟩ : D.Circuit):=⟨fun v hv=>(hw v hv).1,rfl⟩
  cases hwd:wideB t
  ·simp only [Zj1, ZjP]
   rw [ZgT h hs,← hL.eq]
   simp only [Zjv]
   obtain ⟨mp,hl1,hmp⟩:=ZhS hlen hw hnm hL.nm
   rw [hl1]
   simp only [Zjv]
   by_cases hb:bitsV L 0 > 30
   ·rw [Zj2 (by simpa using hb),Zj2 (.inl hb)]; rfl
   ·rw [Zjz (by simpa using hb)]
    have hC:=Zb9 hb0 (by omega)
    obtain ⟨m0,e0,r0⟩:=Cc.impl_new (fuel:=fuel) hC
    rw [e0]
    simp only [Zjv]
    obtain ⟨m1,e1,r1⟩:=Zhz hL.nm hmp fuel t (⟨bitsV L 0,[]⟩,false) m0 (by unfold fuel; omega) hn hwd hL.all hC hv r0
    rw [e1]
    simp only [Zjv]
    have g:=Zbi hL.nm _ t (⟨bitsV L 0,[]⟩,false) (ZjF _) hn hL.all hC hv
    generalize nP L t (⟨bitsV L 0,[]⟩,false) = r at g r1 ⊢
    have hw16:=ZR hn
    have hl:=g.len
    rw [r1.full]
    cases hf:r.2.2
    ·rw [Zjz (by decide), Zjz (by rintro (h | h); exact hb h; cases h)]
     rw [show Ze r.1 = some r.1 from by unfold Ze; rw [Za6 (by simp; omega)]; rfl]
     simp only [Zjv]
     rw [r1.c]
    ·rw [Zj2 rfl,Zj2 (.inr rfl)]; rfl
  ·simp only [Zkd]
   by_cases hb:bitsV L 0 > 30
   ·rw [Zj2 (.inl hb)]; rfl
   ·have hC := Zb9 hb0 (by omega)
    rw [Zj2 (.inr (ZgB hL.nm _ t (⟨bitsV L 0,[]⟩,false) (ZjF _) hn hwd hL.all hC hv))]; rfl
 ·have h' : termB t = false := by simpa using h
  rw [h']
  simp only [Zlw,Zkd,Zjv,Zl0,Zj1,ZjP]
  rfl
theorem Zgq {t:D.Term} (hs:msz t ≤ 1048576):(circT t).1.Gates.length ≤ 1048576 ∧ (circT t).2.1.length ≤ 1048576:=by
 unfold circT
 split
 ·rename_i h
  obtain ⟨L,e,hL,hn,hc,hw,hnm,hlen,hb0⟩:=Zbp h hs
  simp only [e,Zka]
  split
  ·simp [c0]
  ·rename_i h2
   have hC:=Zb9 hb0 (by omega)
   have hv:VF L (⟨bitsV L 0,[]⟩ : D.Circuit):=⟨fun v hv=>(hw v hv).1,rfl⟩
   have g:=Zbi hL.nm _ t (⟨bitsV L 0,[]⟩,false) (ZjF _) hn hL.all hC hv
   have:=g.circ.len
   have:=g.len
   have:=ZR hn
   exact ⟨by simp only; omega,by simp only; omega⟩
 ·simp [c0]
theorem Zjd {t:D.Term} {k:Int} (h:sml t.Kids) (h0:0 ≤ k) (h1:k ≤ 10000000000000000):∃ k' t',Xc fuel t k = some (k',t') ∧ 0 ≤ k':=by
 obtain ⟨k',r,e,h2,-⟩:=Zi9 h h0 (by omega)
 exact ⟨k',_,by unfold Xc; rw [e]; rfl,by omega⟩
theorem fin_FnExactCircuitOf (x:D.Term) (hx:YD x):∃ n,Yy n x = some true:=by
 refine ⟨fuel,?_⟩
 unfold Yy
 obtain ⟨r1,h1,c1⟩:=(szT fuel).1 x 1048576 hx (by omega) (by omega) (by unfold fuel; omega)
 rw [h1]
 simp only [Zjv]
 rcases c1 with c1 | ⟨c1,c2⟩
 ·rw [Zj2 (by simpa using c1)]
 rw [Zjz (by simp; omega)]
 have hs:msz x ≤ 1048576:=by omega
 have hk:sml x.Kids:=by have:=XW x; unfold sml; omega
 obtain ⟨hl,hl2⟩:=Zgq hs
 obtain ⟨k1,t1,m0,b0⟩:=Zjd (t:=x) (k:=1) hk (by omega) (by omega)
 simp only [(toT fuel).1 x hs (by unfold fuel; omega),(eqT fuel).1 x hs (by unfold fuel; omega),Zjv,Zf2 hs,Zfk hs]
 generalize circT x = R at hl hl2 ⊢
 have m2:=Cc.markCircuit_eq (fuel:=fuel) (x:=R.1) (k:=1) (by omega) (by omega) hl
 have m2a:=Cc.markIntS_eq (fuel:=fuel) (p:=R.2.1) (k:=1 + 2 * (R.1.Gates.length:Int)) (by omega) (by omega) hl2
 have m3:=Cc.heldCircuit_eq (fuel:=fuel) (i:=R.1.Inputs) (L:=R.1.Gates.length) (k:=1) (by omega) (by omega) hl
 have m4:=Cc.heldIntS_eq (fuel:=fuel) (L:=R.2.1.length) (k:=1 + 2 * (R.1.Gates.length:Int)) (by omega) (by omega) hl2
 simp only [Cc.eqCircuit_eq hl,Zdt hl2,m0,m2,m2a,m3,m4,Zjv]
 have e0:¬ k1 < 0:=by omega
 have e2:¬ (1:Int) + 2 * (R.1.Gates.length:Int) < 0:=by omega
 have e3:¬ (1:Int) + 2 * (R.1.Gates.length:Int) + (R.2.1.length:Int) < 0:=by omega
 simp [e0,e2,e3]
end Go.Proofs.YthilnjkcemdfeaaGreat
