/- The plain law of this claim: SolveTerm. No program in sight. -/
import Derived.Test.YtgpcokpcbjloiaaGreatPLib2
import Derived.Test.YtgpcokpcbjloiaaGreatPLib3
namespace Go.Proofs.YtgpcokpcbjloiaaGreat
open Go.GL
open Cc (BS LS CircP Grow GoodL Good litN lines negs seqP ifP opP net RelB FOk FU)
set_option linter.unusedSimpArgs false
set_option maxRecDepth 100000
structure CircT (t:D.Term) (L:List D.Value):Prop where
 vars:Yr fuel t = some L
 ivars:Xr fuel t = some (L.map zv)
 circ:CircP (circT t).1
 len:(circT t).2.1.length = t.W.toNat
 lits:∀ x ∈ (circT t).2.1,litN (lines (circT t).1) x = true
 sum:(circT t).1.Inputs = (wsum L:Int)
 wid:∀ v ∈ L,1 ≤ v.W ∧ v.W ≤ 16
 num:L.length ≤ 1000
theorem ZeS {t:D.Term} (h:termB t = true) (hs:msz t ≤ 1048576) (h3:(circT t).2.2 = true):∃ L,CircT t L:=by
 obtain ⟨L,e,hL,hn,hc,hw,hnm,hlen,hb0⟩:=ZcN h hs
 unfold circT at h3
 rw [Zm7 h] at h3
 simp only [e,Zni] at h3
 have hE:circT t = (if bitsV L 0 > 30 ∨ (nP L t (⟨bitsV L 0,[]⟩,false)).2.2 = true then (c0,[],false) else ((nP L t (⟨bitsV L 0,[]⟩,false)).2.1,(nP L t (⟨bitsV L 0,[]⟩,false)).1,true)):=by
  unfold circT
  rw [Zm7 h]
  simp only [e,Zni]
 by_cases hb:bitsV L 0 > 30 ∨ (nP L t (⟨bitsV L 0,[]⟩,false)).2.2 = true
 ·rw [Zm7 hb] at h3; cases h3
 ·rw [Zm6 hb] at hE
  have hC:=Zdq hb0 (by omega)
  have hv:VF L (⟨bitsV L 0,[]⟩ : D.Circuit):=⟨fun v hv=>(hw v hv).1,rfl⟩
  have g:=Zc4 hL.nm _ t (⟨bitsV L 0,[]⟩,false) (ZmN _) hn hL.all hC hv
  refine ⟨L,e,by rw [Zfy h hs,← hL.eq],by rw [hE]; exact g.circ,by rw [hE]; exact g.len,by rw [hE]; exact g.lits,?_,hw,hlen⟩
  rw [hE]
  have:=g.grow.inputs
  have:=Zfj L 0 hw
  simp only at *
  omega
def formT (t:D.Term):D.Formula:=⟨lines (circT t).1,Cc.accF (circT t).1 (circT t).1.Gates.length ++ [[(circT t).2.1.getD 0 0]]⟩
noncomputable def solP (t:D.Term) (limit:Int):Int × List D.Value:=
 if termB t = true ∧ t.W = 1 ∧ 0 ≤ limit ∧ limit ≤ 3000 then
  if (circT t).2.2 = true then
   if (Sv.serP (formT t) (lines (circT t).1).toNat limit).1 = 1 then (1,valsP (Sv.serP (formT t) (lines (circT t).1).toNat limit).2.1 1 ((Yr fuel t).getD [])) else ((Sv.serP (formT t) (lines (circT t).1).toNat limit).1,[])
  else (3,[])
 else (0,[])
theorem Zga (x:Int):Cc.iab x = (x.natAbs:Int):=by unfold Cc.iab; split <;> omega
section
variable {t:D.Term} {L:List D.Value} (hT:CircT t L) (hw1:t.W = 1)
include hT hw1
theorem lit0:(circT t).2.1[0]? = some ((circT t).2.1.getD 0 0) ∧ litN (lines (circT t).1) ((circT t).2.1.getD 0 0) = true:=by
 have hl:=hT.len
 rw [hw1] at hl
 have h0:0 < (circT t).2.1.length:=by rw [hl]; decide
 have hg:(circT t).2.1.getD 0 0 = (circT t).2.1[0]:=by rw [Zm9,Zm2 h0]; rfl
 exact ⟨by rw [Zm2 h0,hg],by rw [hg]; exact hT.lits _ (Zng h0)⟩
theorem ZgA:Cc.formP (circT t).1 ((circT t).2.1.getD 0 0) = (formT t,true):=by
 unfold Cc.formP formT
 rw [Cc.circP_iff.2 hT.circ,(lit0 hT hw1).2]; rfl
theorem Zgu:Sv.FmP (formT t) (lines (circT t).1).toNat ∧ YS fuel (formT t) = some true ∧ YT fuel (formT t) = some true:=by
 have h0:=hT.circ.lines0
 have h1:=hT.circ.lines1
 have hg:=hT.circ.len
 have hi:=Cc.form_inc hT.circ (lit0 hT hw1).2
 have hn:(formT t).Clauses.length ≤ 1600:=by unfold formT; simp only [ZmB,Cc.accF_len,ZmT,Zn6]; omega
 have hv:(formT t).Vars = lines (circT t).1:=rfl
 refine ⟨⟨by rw [hv]; omega,by omega,hn,fun c hc=>?_⟩,Cc.spec_fok (by rw [hv]; omega) (by rw [hv]; omega) hn fun c hc=>⟨(hi c hc).1,by have:=(hi c hc).2; omega⟩,Cc.impl_fok (by rw [hv]; omega) (by rw [hv]; omega) hn fun c hc=>⟨(hi c hc).1,by have:=(hi c hc).2; omega⟩⟩
 obtain ⟨⟨a1,a2⟩,a3⟩:=hi c hc
 refine ⟨⟨fun x hx=>?_,a2.imp fun h=>?_⟩,by omega⟩
 ·have := Cc.litN_iff.1 (a1 x hx)
  rw [Zga] at this
  exact ⟨by omega,by omega⟩
 ·rw [Zga, Zga] at h
  intro e; rw [e] at h; omega
omit hw1 in
theorem Zez {limit:Int} (h:(Sv.serP (formT t) (lines (circT t).1).toNat limit).1 = 1):(Sv.serP (formT t) (lines (circT t).1).toNat limit).2.1.length ≤ 1000 ∧ 1 + wsum L ≤ (Sv.serP (formT t) (lines (circT t).1).toNat limit).2.1.length:=by
 unfold Sv.serP at h ⊢
 dsimp only at h ⊢
 rw [Zm7 h,Sv.bls_len (Sv.brn_asg _ _ _ h)]
 have h1:=hT.circ.lines1
 have hs:=hT.sum
 unfold Cc.lines at h1 ⊢
 omega
end
theorem Zmh (limit:Int):Zg limit 0 3000 = some (decide (0 ≤ limit ∧ limit ≤ 3000)):=by
 unfold Zg; congr 1; rw [ZnD]; simp
theorem Zlh (limit:Int):Xe limit = some (decide (0 ≤ limit ∧ limit ≤ 3000)):=by
 unfold Xe; congr 1; rw [ZnD]; simp
theorem ZdL {t:D.Term} {limit:Int} (h:¬ (termB t = true ∧ t.W = 1 ∧ 0 ≤ limit ∧ limit ≤ 3000)):solP t limit = (0,[]):=by unfold solP; rw [Zm6 h]
theorem Zk1 {t:D.Term} {limit:Int} (h:termB t = true ∧ t.W = 1 ∧ 0 ≤ limit ∧ limit ≤ 3000) (h3:¬ (circT t).2.2 = true):solP t limit = (3,[]):=by unfold solP; rw [Zm7 h,Zm6 h3]
theorem Zk7 {t:D.Term} {limit:Int} (h:termB t = true ∧ t.W = 1 ∧ 0 ≤ limit ∧ limit ≤ 3000) (h3:(circT t).2.2 = true):solP t limit = if (Sv.serP (formT t) (lines (circT t).1).toNat limit).1 = 1 then (1,valsP (Sv.serP (formT t) (lines (circT t).1).toNat limit).2.1 1 ((Yr fuel t).getD [])) else ((Sv.serP (formT t) (lines (circT t).1).toNat limit).1,[]):=by unfold solP; rw [Zm7 h,Zm7 h3]
theorem Zie {t:D.Term} {limit:Int} (hs:msz t ≤ 1048576):XA fuel t limit = some (solP t limit):=by
 unfold XA
 rw [ZbB hs]
 simp only [Zm1]
 by_cases h:termB t = true
 rotate_left
 ·rw [ZdL (fun q => h q.1)]
  have h':termB t = false:=by simpa using h
  rw [h']; rfl
 by_cases hw:t.W = 1
 rotate_left
 ·rw [ZdL (fun q=>hw q.2.1),h,show (t.W != 1) = true by simpa using hw]; rfl
 rw [h,show (t.W != 1) = false by simpa using hw,Zmh]
 simp only [ZmK,Znj,Zm3,ZmE,Zm1]
 by_cases hl:0 ≤ limit ∧ limit ≤ 3000
 rotate_left
 ·rw [ZdL (fun q=>hl q.2.2),decide_eq_false hl]; rfl
 rw [decide_eq_true hl]
 simp only [ZmK,Zm3,ZmE,Zh8 hs,Zm1]
 by_cases h3:(circT t).2.2 = true
 rotate_left
 ·rw [Zk1 ⟨h,hw,hl⟩ h3,Zm7 (by simpa using h3)]
 rw [Zk7 ⟨h,hw,hl⟩ h3,Zm6 (by rw [h3]; decide)]
 obtain ⟨L,hT⟩:=ZeS h hs h3
 have hg:=hT.circ.len
 obtain ⟨f1,f2,f3⟩:=Zgu hT hw
 rw [show get? (circT t).2.1 0 = _ from (get?_nat (i:=0)).trans (lit0 hT hw).1]
 simp only [Zm1]
 rw [Cc.spec_FormulaOf_eq hT.circ.fit (by omega),ZgA hT hw]
 simp only [Zm1]
 rw [Sv.spec_search f1 hl.1 hl.2 (by unfold fuel; omega) f2]
 simp only [Zm1]
 by_cases h4:(Sv.serP (formT t) (lines (circT t).1).toNat limit).1 = 1
 ·obtain ⟨m1, m2⟩ := Zez hT h4
  rw [Zm6 (by simpa using h4),Zm7 h4,hT.vars]
  simp only [Zm1,Zni]
  rw [ZfR m1 hT.num hT.wid (by unfold fuel; omega) m2,h4]; rfl
 ·rw [Zm7 (by simpa using h4),Zm6 h4]
theorem Zh0 {t:D.Term} {limit:Int} (hs:msz t ≤ 1048576):Xl fuel t limit = some (solP t limit):=by
 unfold Xl
 rw [ZdI hs]
 simp only [Zm1]
 by_cases h:termB t = true
 rotate_left
 ·rw [ZdL (fun q => h q.1)]
  have h':termB t = false:=by simpa using h
  rw [h']; rfl
 by_cases hw:t.W = 1
 rotate_left
 ·rw [ZdL (fun q=>hw q.2.1),h,show (t.W != 1) = true by simpa using hw]; rfl
 rw [h,show (t.W != 1) = false by simpa using hw,Zlh]
 simp only [ZmK,Znj,Zm3,ZmE,Zm1]
 by_cases hl:0 ≤ limit ∧ limit ≤ 3000
 rotate_left
 ·rw [ZdL (fun q=>hl q.2.2),decide_eq_false hl]; rfl
 rw [decide_eq_true hl]
 simp only [ZmK,Zm3,ZmE,ZhJ hs,Zm1]
 by_cases h3:(circT t).2.2 = true
 rotate_left
 ·rw [Zk1 ⟨h,hw,hl⟩ h3,Zm7 (by simpa using h3)]
 rw [Zk7 ⟨h,hw,hl⟩ h3,Zm6 (by rw [h3]; decide)]
 obtain ⟨L,hT⟩:=ZeS h hs h3
 have hg:=hT.circ.len
 obtain ⟨f1,f2,f3⟩:=Zgu hT hw
 rw [show get? (circT t).2.1 0 = _ from (get?_nat (i:=0)).trans (lit0 hT hw).1]
 simp only [Zm1]
 rw [Cc.impl_FormulaOf_eq hT.circ.fit (by omega),ZgA hT hw]
 simp only [Zm1,ZmK,Zm3,ZmE]
 rw [Sv.impl_search f1 hl.1 hl.2 (by unfold fuel; omega) f3]
 simp only [Zm1]
 by_cases h4:(Sv.serP (formT t) (lines (circT t).1).toNat limit).1 = 1
 ·obtain ⟨m1, m2⟩ := Zez hT h4
  rw [Zm6 (by simpa using h4),Zm7 h4,hT.vars]
  simp only [Zni]
  rw [Zgi m1 hT.num hT.wid (by unfold fuel; omega) m2 hT.ivars]; rfl
 ·rw [Zm7 (by simpa using h4),Zm6 h4]
theorem ZkB {t:D.Term} {limit:Int} (hs:msz t ≤ 1048576):(solP t limit).2.length ≤ 100000:=by
 unfold solP
 split
 ·rename_i h
  split
  ·rename_i h3
   obtain ⟨L,hT⟩:=ZeS h.1 hs h3
   have:=hT.num
   split
   ·rw [hT.vars]
    simp only [Zni,Zft]; omega
   ·simp
  ·simp
 ·simp
theorem fin_FnExactSolveTerm (x:D.Term) (hx:Xk x) (y:Int) (_:fitInt y):∃ n,YW n x y = some true:=by
 refine ⟨fuel,?_⟩
 unfold YW
 obtain ⟨r1,h1,c1⟩:=(szT fuel).1 x 1048576 hx (by omega) (by omega) (by unfold fuel; omega)
 rw [h1]
 simp only [Zm1]
 rcases c1 with c1 | ⟨c1,c2⟩
 ·rw [Zm7 (by simpa using c1)]
 rw [Zm6 (by simp; omega)]
 have hs:msz x ≤ 1048576:=by omega
 have hk:sml x.Kids:=by have:=Zbh x; unfold sml; omega
 obtain ⟨k1,t1,m0,b0⟩:=Zmd (t:=x) (k:=1) hk (by omega) (by omega)
 have hl:=ZkB (t:=x) (limit:=y) hs
 simp only [(toT fuel).1 x hs (by unfold fuel; omega),(eqT fuel).1 x hs (by unfold fuel; omega),Zm1,Zie hs,Zh0 hs]
 generalize solP x y = R at hl ⊢
 have m1:=Zfc hl
 have m2:=Zfb (l:=R.2) (k:=1) (by omega) (by omega) hl
 have m3:=ZeY (L:=R.2.length) (k:=1) (by omega) (by omega) hl
 have e0:¬ k1 < 0:=by omega
 have e2:¬ (1:Int) + 3 * (R.2.length:Int) < 0:=by omega
 simp [m0,m1,m2,m3,e0,e2]
end Go.Proofs.YtgpcokpcbjloiaaGreat
