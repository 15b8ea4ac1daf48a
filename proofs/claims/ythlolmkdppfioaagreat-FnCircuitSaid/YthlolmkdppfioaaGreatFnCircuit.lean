/- The plain law of this claim. No program in sight. -/
import Derived.Test.YthlolmkdppfioaaGreatPLib3
namespace Go.Proofs.YthlolmkdppfioaaGreat
open Go.GL
open Cc (BS LS CircP Grow GoodL litN lines ZE litV ev vB Yl opB bi)
set_option linter.unusedSimpArgs false
set_option maxRecDepth 100000
theorem Zkh:∀ k:Nat,k < 16 → shl? 1 (k:Int) = some ((2 ^ k:Nat):Int):=by decide
theorem Zjc {E:List Bool} {l:List Int} (hE:E.length ≤ 1000) (hl:l.length ≤ 16) (h:∀ x ∈ l,litN (E.length:Int) x = true):Zbc fuel E l = some (vB (l.map (litV E)):Int):=by
 unfold Zbc
 rw [ZV (I:=fun k s=>s = ((vB ((l.take k).map (litV E)):Int),(k:Int))) (m:=l.length) (r:=(.inl (vB (l.map (litV E)):Int):Int ⊕ Int)) (fun k s hk hs=>?_) (fun s hs=>?_) l.length 0 (0,0) (by omega) (by simp [vB]) fuel (lt_fuel (by omega))]
 ·rfl
 ·subst hs
  refine ⟨_,?_,rfl⟩
  have hq:=h _ (Zmj hk)
  have hgq:get? l (k:Int) = some l[k]:=by rw [get?_nat,Zl1 hk]
  have hbd:=Yl ((l.take k).map (litV E))
  have hlk:((l.take k).map (litV E)).length = k:=by rw [ZlW,Zl8]; omega
  have hpk:2 ^ k ≤ 2 ^ 15:=Zm3 (by decide) (by omega)
  rw [hlk] at hbd
  rw [ZlB hk,Zmh,ZlA,Zms,Cc.vB_snoc,hlk]
  generalize l[k] = q at hq hgq ⊢
  generalize vB ((l.take k).map (litV E)) = t at hbd ⊢
  obtain ⟨h1,h2⟩:=ZE.1 hq
  have hab:cond (decide (q < 0)) (w64 (0 - q)) q = Cc.iab q:=by
   unfold Cc.iab at *
   by_cases c:q < 0
   ·rw [Zl7 c] at *
    rw [decide_eq_true c,cond_true,Zd (by omega) (by omega)]; omega
   ·rw [Zl4 c] at *
    rw [decide_eq_false c,cond_false]
  obtain ⟨v,hv,hlv⟩:=Cc.get_lit h1 h2
  simp only
  rw [Zl7 (by rw [Za]; simp; omega),hgq]
  simp only [Zl0]
  rw [hab,Zl4 (by rw [Za]; simp; omega),Zd (x:=Cc.iab q - 1) (by omega) (by omega),show Cc.iab q - 1 = (((Cc.iab q - 1).toNat:Nat):Int) by omega,get?_nat,hv]
  simp only [Zl0]
  rw [Zkh k (by omega),hlv]
  simp only [Zl0]
  rw [Zd (x:=(k:Int) + 1) (by omega) (by omega),Zd (x:=(t:Int) + ((2 ^ k:Nat):Int)) (by omega) (by omega)]
  have hk1:(((k + 1:Nat)):Int) = (k:Int) + 1:=by omega
  rw [hk1]
  unfold Cc.iab at h1
  by_cases c:q < 0
  ·have e : decide (q > 0) = false := by simp; omega
   rw [e,Zl7 c]
   cases v <;> simp [bi]
  ·rw [Zl4 c] at h1
   have e:decide (q > 0) = true:=by simp; omega
   rw [e,Zl4 c]
   cases v <;> simp [bi]
 ·subst hs
  simp only
  rw [Zl4 (by rw [Za]; simp),Zmc]
theorem Zkz {x:D.Value} {acc:List Bool} (hw:1 ≤ x.W ∧ x.W ≤ 16) (ha:acc.length ≤ 1000):iterN (fun (s3:Int × (List Bool))=>
          if (decide (s3.1 ≥ 0)) then
           (shr? x.N s3.1).bind fun x9=>
           (app? s3.2 ([((band x9 1) == 1)]:List Bool)).bind fun x10=>
           some (.inl ((w64 (s3.1 - 1)),x10))
          else
           some (.inr (s3.2))
         ) fuel ((w64 (x.W - 1)),acc) = some (acc ++ (List.range x.W.toNat).reverse.map (bitI x.N)):=by
  obtain ⟨w,hwn⟩ : ∃ w:Nat,x.W = (w:Int):=⟨x.W.toNat,by omega⟩
  rw [hwn,Zmf,Zd (by omega) (by omega)]
  refine ZV (I:=fun k s=>s = ((w:Int) - 1 - (k:Int),acc ++ ((List.range w).reverse.take k).map (bitI x.N))) (m:=w) (fun k s hk hs=>?_) (fun s hs=>?_) w 0 _ (by omega) (by simp) fuel (lt_fuel (by omega))
  · subst hs
    refine ⟨_,?_,rfl⟩
    simp only
    have hd:(w:Int) - 1 - (k:Int) = ((w - 1 - k:Nat):Int):=by omega
    rw [hd,Zl7 (by simp)]
    obtain ⟨y,hy,hb⟩:=Zd9 x.N (w - 1 - k)
    rw [hy]
    simp only [Zl0]
    rw [Zfl (by simp; omega)]
    simp only [Zl0]
    have hl:k < (List.range w).reverse.length:=by simpa using hk
    rw [Zd (by omega) (by omega),ZlB hl,Zmh,← Zmq,← hb]
    have hg:(List.range w).reverse[k] = w - 1 - k:=by simp
    rw [hg,show (((w - 1 - k:Nat)):Int) - 1 = (w:Int) - 1 - ((k + 1:Nat):Int) by omega]
    rfl
  · subst hs
    simp only
    rw [Zl4 (by simp; omega),Zmr (by simp)]
theorem ZkE {L l : List D.Value} (hw : ∀ v ∈ L, 1 ≤ v.W ∧ v.W ≤ 16) (h30 : L.length ≤ 30) (h : Vls L l) (hb : bitsV L 0 ≤ 30) : iterN (fun (s2 : Int × (List Bool)) =>
        if (decide (s2.1 < (len l))) then
         (get? l s2.1).bind fun x8 =>
         (iterN (fun (s3 : Int × (List Bool)) =>
          if (decide (s3.1 ≥ 0)) then
           (shr? x8.N s3.1).bind fun x9=>
           (app? s3.2 ([((band x9 1) == 1)]:List Bool)).bind fun x10=>
           some (.inl ((w64 (s3.1 - 1)),x10))
          else
           some (.inr (s3.2))
         ) fuel ((w64 (x8.W - 1)),s2.2)).bind fun (rl3:(List Bool))=>
         some (.inl ((w64 (s2.1 + 1)),rl3))
        else
         some (.inr (s2.2))
       ) fuel (0,([]:List Bool)) = some (inB l):=by
  have hll:l.length = L.length:=by
    have:=congrArg List.length h.ky
    rwa [ZlW,ZlW] at this
  have hil:=Zfm h.ky hw
  refine ZV (I:=fun k s=>s = ((k:Int),inB (l.take k))) (m:=l.length) (fun k s hk hs=>?_) (fun s hs=>?_) l.length 0 _ (by omega) (by simp [inB]) fuel (lt_fuel (by omega))
  · subst hs
    refine ⟨_,?_,rfl⟩
    have hx:l[k] ∈ l:=Zmj hk
    obtain ⟨v,hv,v1,v2⟩:=Zfr h.ky hx
    have hwk:=hw v hv
    have hle:(inB (l.take k)).length ≤ (inB l).length:=by
      have:inB l = inB (l.take k) ++ inB (l.drop k):=by unfold inB; rw [← List.flatMap_append,ZmJ]
      rw [this,ZlF]; omega
    simp only
    rw [Zl7 (by rw [Za]; simp; omega),get?_nat,Zl1 hk]
    simp only [Zl0]
    rw [Zkz (by omega) (by omega)]
    simp only [Zl0]
    rw [Zd (by omega) (by omega)]
    have e:inB (l.take (k + 1)) = inB (l.take k) ++ (List.range l[k].W.toNat).reverse.map (bitI l[k].N):=by
      unfold inB
      rw [ZlB hk,List.flatMap_append]
      simp
    rw [e]; rfl
  · subst hs
    simp only
    rw [Zl4 (by rw [Za]; simp),Zmc]
theorem fin_FnCircuit (code:List Byt) (_:fitList fitByt code):∃ n,XO n code = some true:=by
 refine ⟨fuel,?_⟩
 unfold XO
 by_cases c0:len code > 1048576
 ·rw [Zl7 (by simpa using c0)]
 rw [Zl4 (by simpa using c0)]
 rw [Za] at c0
 have hl:code.length ≤ 1048576:=by omega
 obtain ⟨w,ew,w1,w2⟩:=ZhX (fuel:=fuel) hl (m:=70) (lo:=1) (hi:=4) (by decide) (by decide) (by decide) (by decide)
 rw [ew]
 simp only [Zl0]
 obtain ⟨t,et,hs⟩:=Ziw (fuel:=fuel) hl (m:=0) (w:=w) (by decide) w1 3 (by omega)
 rw [show (3:Int) = ((3:Nat):Int) from rfl,et]
 have hs':msz t ≤ 1048576:=ZmP hs (by decide)
 simp only [Zl0]
 rw [ZgA hs',ZgG hs']
 simp only [Zl0,ZmU,ZlZ,Zl2,ZlC]
 cases hok:(circT t).2.2
 ·rfl
 simp only [ZlZ,Zl2,ZlC]
 obtain ⟨L,eL,hL,ht,hw,h30,hC,hlen,hlit,hin,hb30,hev⟩:=Ziq hs' hok
 have hW:1 ≤ t.W ∧ t.W ≤ 16:=by
  unfold termB at ht
  simp only [Zl6,ZlE] at ht
  exact ZK ht.1.2
 have hg:=hC.len
 rw [Cc.impl_circ (fuel:=fuel) hC.fit (by omega),Cc.circP_iff.2 hC]
 simp only [Zl0,ZlZ,Zmz]
 rw [Zl4 (by rw [Za,hlen]; simp; omega)]
 rw [ZV (I:=fun k s=>s = (k:Int)) (m:=12) (r:=(.inl ():Unit ⊕ Bool)) (fun k s hk hs=>?_) (fun s hs=>?_) 12 0 0 (by omega) rfl fuel (lt_fuel (by omega))]
 ·rfl
 ·subst hs
  refine ⟨_,?_,rfl⟩
  rw [Zl7 (by simp; omega),eL]
  simp only [Zl0]
  rw [Zd (x:=80 + (k:Int)) (by omega) (by omega)]
  obtain ⟨l,el,hv⟩:=Zf1 hl (m:=80 + (k:Int)) (by omega) (L:=L) (by omega) hw
  rw [el]
  simp only [Zl0]
  rw [ZkE hw h30 hv hb30]
  have hil:=Zfm hv.ky hw
  have he:=hev l hv fuel (by unfold fuel; decide)
  rw [Zgv hs' ht hL hw h30 hv he]
  simp only [Zl0,ZlZ,Zl2,ZlC]
  rw [Cc.impl_eval (fuel:=fuel) hC.fit (by omega) (by omega)]
  have hevB:Cc.evalB (circT t).1 (inB l) = ev (circT t).1 (inB l):=by
   unfold Cc.evalB
   rw [Zl7 (by rw [Cc.circP_iff.2 hC,Za,hil,hin]; simp)]
   rfl
  rw [hevB]
  have hel:=Cc.ev_len (c:=(circT t).1) (v:=inB l) (by rw [hil,hin])
  have hlines:lines (circT t).1 = (circT t).1.Inputs + 1 + ((circT t).1.Gates.length:Int):=rfl
  simp only [Zl0]
  rw [Zjc (by have:=hC.i1; omega) (by rw [hlen]; omega) (fun x hx=>by rw [hel]; exact hlit x hx)]
  simp only [Zl0]
  rw [Zl4 (by simp),Zd (by omega) (by omega)]
  rfl
 ·subst hs
  rw [Zl4 (by decide)]
end Go.Proofs.YthlolmkdppfioaaGreat
