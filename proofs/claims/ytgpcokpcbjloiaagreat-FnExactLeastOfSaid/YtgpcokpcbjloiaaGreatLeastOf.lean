/- The plain law of this claim: LeastOf. No program in sight. -/
import Derived.Test.YtgpcokpcbjloiaaGreatPLib3
namespace Go.Proofs.YtgpcokpcbjloiaaGreat
open Go.GL
open Cc (BS LS CircP Grow GoodL Good litN lines negs seqP ifP opP net RelB FOk FU)
set_option linter.unusedSimpArgs false
set_option maxRecDepth 100000
def formG (c:D.Circuit) (lit:Int):D.Formula:=⟨lines c,Cc.accF c c.Gates.length ++ [[lit]]⟩
theorem Zhe {n x:Int} (h:litN n x = true):Sv.isL n.toNat x:=by
 have:=Cc.litN_iff.1 h
 rw [Zec] at this
 exact ⟨by omega,by omega⟩
structure FormG (c:D.Circuit) (lit:Int):Prop where
 eq:Cc.formP c lit = (formG c lit,true)
 fm:Sv.FmP (formG c lit) (lines c).toNat
 spec:YG fuel (formG c lit) = some true
theorem Zj5 {c:D.Circuit} (hC:CircP c) {lit:Int} (hl:litN (lines c) lit = true):FormG c lit:=by
 have h0:=hC.lines0
 have h1:=hC.lines1
 have hg:=hC.len
 have hi:=Cc.form_inc hC hl
 have hn:(formG c lit).Clauses.length ≤ 1600:=by unfold formG; simp only [Zmo,Cc.accF_len,ZmC,Zn2]; omega
 have hv:(formG c lit).Vars = lines c:=rfl
 refine ⟨by unfold Cc.formP formG; rw [Cc.circP_iff.2 hC,hl]; rfl,⟨by rw [hv]; omega,by omega,hn,fun x hx=>?_⟩,Cc.spec_fok (by rw [hv]; omega) (by rw [hv]; omega) hn fun x hx=>⟨(hi x hx).1,by have:=(hi x hx).2; omega⟩⟩
 obtain ⟨⟨a1,a2⟩,a3⟩:=hi x hx
 refine ⟨⟨fun y hy=>Zhe (a1 y hy),a2.imp fun h=>?_⟩,by omega⟩
 rw [Zec,Zec] at h
 intro e; rw [e] at h; omega
noncomputable def endP (f:D.Formula) (m:Nat) (limit:Int) (bits:List Int) (g:Bool):Nat → List Int → Int → Int × Bool
 | 0,_,r=>(r,true)
 | k + 1,lits,r=>
  let x:=if g = true then bits.getD k 0 else -bits.getD k 0
  let c:=(Sv.serL f m limit (lits ++ [x])).1
  if c = 3 then (0,false) else
   let y:=if c = 2 then -x else x
   endP f m limit bits g k (lits ++ [y]) (w64 (w64 (2 * r) + bit (y == bits.getD k 0)))
section
variable {f:D.Formula} {m:Nat} {limit:Int} {bits:List Int}
theorem Zl0 {l:List Int} (h:l.length ≤ 1000):app? ([]:List Int) l = some l:=by
 unfold app? room
 rw [Zmk (by simp; omega)]; rfl
theorem Zkp {l:List Int} {x:Int} (h:l.length ≤ 1000):app? l [x] = some (l ++ [x]):=by
 unfold app? room
 rw [Zmk (by simp; omega)]
theorem Zfc {l:List Int} {x:Int} (h:l.length ≤ 1000):Yb l x = some (l ++ [x]):=by
 unfold Yb
 rw [Zl0 h]
 simp only [Zme]
 rw [Zkp h]; rfl
theorem ZiL {l:List Int} {x:Int} (h:l.length ≤ 1000):Zay l x = some (l ++ [x]):=by
 unfold Zay Ze
 rw [Zl0 h]
 simp only [Zme]
 rw [Zkp h]; rfl
theorem ZhY (hm:m ≤ 400) {l:List Int} (h:∀ x ∈ l,Sv.isL m x) (hl:l.length ≤ 1000):Y8 fuel l (m:Int) = some true:=by
 rw [Cc.spec_lits (by omega) (by omega) (by omega)]
 congr 1
 refine Zms.2 fun x hx=>Cc.litN_iff.2 ?_
 have:=h x hx
 rw [Zec]
 exact ⟨by have:=this.1; omega,by have:=this.2; omega⟩
theorem Zga {x:Int} (h:Sv.isL m x):Sv.isL m (-x):=⟨by have:=h.1; omega,by have:=h.2; omega⟩
theorem Zkz (hm:m ≤ 400) {x:Int} (h:Sv.isL m x):w64 (0 - x) = -x:=by
 have:=h.2
 rw [Zb (by omega) (by omega)]; omega
theorem Zdj {l:List Int} {x:Int} (h:∀ y ∈ l,Sv.isL m y) (hx:Sv.isL m x):∀ y ∈ l ++ [x],Sv.isL m y:=fun y hy=>by
 rcases Zm0.1 hy with hy | hy
 ·exact h y hy
 ·rw [Zm5.1 hy]; exact hx
theorem ZhO (b:Bool):YR b = some (bit b):=by unfold YR bit; split <;> rfl
theorem Zle (b:Bool):X0 b = some (bit b):=by unfold X0 bit; split <;> rfl
theorem Zjt {c:Int} {x:Int} (hm:m ≤ 400) (h:Sv.isL m x):cond (c == 2) (w64 (0 - x)) x = if c = 2 then -x else x:=by
 rw [Zkz hm h]
 by_cases hc:c = 2
 ·rw [Zmk hc,hc]; rfl
 ·rw [Zmj hc,show (c == 2) = false by simpa using hc]; rfl
theorem ZgN {c:Int} {x:Int} (h:Sv.isL m x):Sv.isL m (if c = 2 then -x else x):=by split; exact Zga h; exact h
theorem Zj3 (hf:Sv.FmP f m) (hfk:YG fuel f = some true) (h0:0 ≤ limit) (hl3:limit ≤ 3000) (hb:∀ x ∈ bits,Sv.isL m x) (hbl:bits.length ≤ 100) (g:Bool) {lits:List Int} (hL:∀ x ∈ lits,Sv.isL m x) (hLl:lits.length ≤ 100):XF fuel f lits bits g limit = some (endP f m limit bits g bits.length lits 0):=by
  have hm:=hf.small
  have key:∀ (k:Nat) (lits:List Int) (r:Int) (n:Nat),k ≤ bits.length → (∀ x ∈ lits,Sv.isL m x) → lits.length + k ≤ 1000 → k < n → ∃ z:Int ⊕ (Int × Bool),iterN (fun (s1:(List Int) × Int × Int)=>
  if (decide (s1.2.2 ≥ 0)) then
   (get? bits s1.2.2).bind fun x1=>
   if g then
    (get? bits s1.2.2).bind fun x2=>
    (Yb s1.1 x2).bind fun x3=>
    (YE fuel f x3 limit).bind fun x4=>
    if (x4.1 == 3) then
     some (.inr (.inr (0,false)))
    else
     (Yb s1.1 (cond (x4.1 == 2) (w64 (0 - x2)) x2)).bind fun x5=>
     (get? bits s1.2.2).bind fun x6=>
     (YR ((cond (x4.1 == 2) (w64 (0 - x2)) x2) == x6)).bind fun x7=>
     some (.inl (x5,(w64 ((w64 (2 * s1.2.1)) + x7)),(w64 (s1.2.2 - 1))))
   else
    (Yb s1.1 (w64 (0 - x1))).bind fun x8=>
    (YE fuel f x8 limit).bind fun x9=>
    if (x9.1 == 3) then
     some (.inr (.inr (0,false)))
    else
     (Yb s1.1 (cond (x9.1 == 2) (w64 (0 - (w64 (0 - x1)))) (w64 (0 - x1)))).bind fun x10=>
     (get? bits s1.2.2).bind fun x11=>
     (YR ((cond (x9.1 == 2) (w64 (0 - (w64 (0 - x1)))) (w64 (0 - x1))) == x11)).bind fun x12=>
     some (.inl (x10,(w64 ((w64 (2 * s1.2.1)) + x12)),(w64 (s1.2.2 - 1))))
  else
   some (.inr (.inl (s1.2.1)))) n (lits,r,(k:Int) - 1) = some z ∧ (match z with | .inl s1r=>some (s1r,true) | .inr v=>some v) = some (endP f m limit bits g k lits r):=by
    intro k
    induction k with
    | zero =>
      intro lits r n _ hL hLl hn
      exact ⟨.inl r,itE rfl hn,rfl⟩
    | succ k ih =>
      intro lits r n hk hL hLl hn
      obtain ⟨n,rfl⟩ : ∃ j,n = j + 1:=⟨n - 1,by omega⟩
      have hkl:k < bits.length:=by omega
      have hd:decide ((k:Int) ≥ 0) = true:=decide_eq_true (by omega)
      obtain ⟨b,hg,eb,hbk⟩ : ∃ b,get? bits (k:Int) = some b ∧ bits.getD k 0 = b ∧ Sv.isL m b:=⟨bits[k],by rw [get?_nat,Zmf hkl],by rw [Zmm,Zmf hkl]; rfl,hb _ (ZmG hkl)⟩
      have ek:(((k + 1:Nat):Int) - 1) = (k:Int):=by omega
      have ew:w64 ((k:Int) - 1) = (k:Int) - 1:=Zb (by omega) (by omega)
      rw [ek,endP,eb]
      dsimp only
      have fin:∀ x:Int,Sv.isL m x → ∃ R:Int × List Bool × Int,Sv.serL f m limit (lits ++ [x]) = R ∧ Yb lits x = some (lits ++ [x]) ∧ YE fuel f (lits ++ [x]) limit = some R ∧ cond (R.1 == 2) (w64 (0 - x)) x = (if R.1 = 2 then -x else x) ∧ Yb lits (if R.1 = 2 then -x else x) = some (lits ++ [if R.1 = 2 then -x else x]) ∧ ∀ y ∈ lits ++ [if R.1 = 2 then -x else x],Sv.isL m y:=fun x hx=>⟨_,rfl,Zfc (by omega),Sv.spec_searchL hf h0 hl3 (by unfold fuel; omega) (Zdj hL hx) (by rw [Zmo,ZmJ]; omega) hfk (by rw [hf.vars]; exact ZhY hm (Zdj hL hx) (by rw [Zmo,ZmJ]; omega)),Zjt hm hx,Zfc (by omega),Zdj hL (ZgN hx)⟩
      cases g
      · obtain ⟨R, e1, e2, e3, e4, e5, e6⟩ := fin (-b) (Zga hbk)
        simp only [Zmg,Zmr,e1]
        by_cases h3:R.1 = 3
        · refine ⟨.inr (0, false), itE ?_ (by omega), by rw [Zmk h3]⟩
          simp only [hd,Zm8,hg,Zme,Zmg,Zmr]
          rw [Zkz hm hbk,e2]
          simp only [Zme,e3]
          rw [Zmk (by simpa using h3)]
        · obtain ⟨z, g1, g2⟩ := ih (lits ++ [if R.1 = 2 then - -b else -b]) (w64 (w64 (2 * r) + bit ((if R.1 = 2 then - -b else -b) == b))) n (by omega) e6 (by rw [Zmo, ZmJ]; omega) (by omega)
          refine ⟨z,?_,by rw [Zmj h3]; exact g2⟩
          rw [itS (s':=(lits ++ [if R.1 = 2 then - -b else -b],w64 (w64 (2 * r) + bit ((if R.1 = 2 then - -b else -b) == b)),(k:Int) - 1)) (by
            simp only [hd,Zm8,hg,Zme,Zmg,Zmr]
            rw [Zkz hm hbk,e2]
            simp only [Zme,e3]
            rw [Zmj (by simpa using h3),e4,e5]
            simp only [Zme,ZhO,ew])]
          exact g1
      · obtain ⟨R, e1, e2, e3, e4, e5, e6⟩ := fin b hbk
        simp only [Zm8,e1]
        by_cases h3:R.1 = 3
        · refine ⟨.inr (0, false), itE ?_ (by omega), by rw [Zmk h3]⟩
          simp only [hd,Zm8,hg,Zme,e2,e3]
          rw [Zmk (by simpa using h3)]
        · obtain ⟨z, g1, g2⟩ := ih (lits ++ [if R.1 = 2 then -b else b]) (w64 (w64 (2 * r) + bit ((if R.1 = 2 then -b else b) == b))) n (by omega) e6 (by rw [Zmo, ZmJ]; omega) (by omega)
          refine ⟨z,?_,by rw [Zmj h3]; exact g2⟩
          rw [itS (s':=(lits ++ [if R.1 = 2 then -b else b],w64 (w64 (2 * r) + bit ((if R.1 = 2 then -b else b) == b)),(k:Int) - 1)) (by
            simp only [hd,Zm8,hg,Zme,e2,e3]
            rw [Zmj (by simpa using h3),e4,e5]
            simp only [Zme,ZhO,ew])]
          exact g1
  have el:w64 (len bits - 1) = (bits.length:Int) - 1:=by rw [Za,Zb (by omega) (by omega)]
  obtain ⟨z,g1,g2⟩:=key bits.length lits 0 fuel (Zmy _) hL (by omega) (lt_fuel (by omega))
  unfold XF
  rw [el]
  refine Eq.trans ?_ g2
  exact congrArg (fun o=>Option.bind o (fun (rl1:(Int) ⊕ (Int × Bool))=>match rl1 with | .inl s1r=>some (s1r,true) | .inr v=>some v)) g1
theorem Zkl {occ:List (List Int)} (hf:Sv.FmP f m) (ho:Sv.OccP f m occ) (h0:0 ≤ limit) (hl3:limit ≤ 3000) (hb:∀ x ∈ bits,Sv.isL m x) (hbl:bits.length ≤ 100) (g:Bool) {w:Int} (hw:w = if g = true then 1 else -1) {top:Int} (hT:Sv.isL m top):Yj fuel ⟨f,occ⟩ top bits w limit = some (endP f m limit bits g bits.length [top] 0):=by
  have hm:=hf.small
  have key:∀ (k:Nat) (lits:List Int) (r:Int) (n:Nat),k ≤ bits.length → (∀ x ∈ lits,Sv.isL m x) → lits.length + k ≤ 1000 → k < n → ∃ z:(Int × (List Int)) ⊕ (Int × Bool),iterN (fun (s1:Int × Int × (List Int))=>
  if (decide (s1.2.1 ≥ 0)) then
   (get? bits s1.2.1).bind fun x1=>
   (Zay s1.2.2 (w64 (w * x1))).bind fun x2=>
   (ZZ fuel ⟨f,occ⟩ x2 limit).bind fun x3=>
   if (x3.1 == 3) then
    some (.inr (.inr (0,false)))
   else
    (get? bits s1.2.1).bind fun x4=>
    (app? s1.2.2 ([(cond (x3.1 == 2) (w64 (0 - (w64 (w * x4)))) (w64 (w * x4)))]:List Int)).bind fun x5=>
    (get? bits s1.2.1).bind fun x6=>
    (X0 ((cond (x3.1 == 2) (w64 (0 - (w64 (w * x4)))) (w64 (w * x4))) == x6)).bind fun x7=>
    some (.inl ((w64 ((w64 (2 * s1.1)) + x7)),(w64 (s1.2.1 - 1)),x5))
  else
   some (.inr (.inl (s1.1,s1.2.2)))) n (r,(k:Int) - 1,lits) = some z ∧ (match z with | .inl s1r=>some (s1r.1,true) | .inr v=>some v) = some (endP f m limit bits g k lits r):=by
    intro k
    induction k with
    | zero =>
      intro lits r n _ hL hLl hn
      exact ⟨.inl (r,lits),itE rfl hn,rfl⟩
    | succ k ih =>
      intro lits r n hk hL hLl hn
      obtain ⟨n,rfl⟩ : ∃ j,n = j + 1:=⟨n - 1,by omega⟩
      have hkl:k < bits.length:=by omega
      have hd:decide ((k:Int) ≥ 0) = true:=decide_eq_true (by omega)
      obtain ⟨b,hg,eb,hbk⟩ : ∃ b,get? bits (k:Int) = some b ∧ bits.getD k 0 = b ∧ Sv.isL m b:=⟨bits[k],by rw [get?_nat,Zmf hkl],by rw [Zmm,Zmf hkl]; rfl,hb _ (ZmG hkl)⟩
      have ek:(((k + 1:Nat):Int) - 1) = (k:Int):=by omega
      have ew:w64 ((k:Int) - 1) = (k:Int) - 1:=Zb (by omega) (by omega)
      rw [ek,endP,eb]
      dsimp only
      have hx:Sv.isL m (if g = true then b else -b):=by split; exact hbk; exact Zga hbk
      have hwx:w64 (w * b) = if g = true then b else -b:=by
        have:=hbk.2
        rw [hw]
        cases g
        · rw [Zmj (by decide),Zmj (by decide),Zb (by omega) (by omega)]; omega
        · rw [Zmk rfl,Zmk rfl,Zb (by omega) (by omega)]; omega
      generalize (if g = true then b else -b) = x at hx hwx ⊢
      obtain ⟨R,e1⟩ : ∃ R,Sv.serL f m limit (lits ++ [x]) = R:=⟨_,rfl⟩
      have e3:ZZ fuel ⟨f,occ⟩ (lits ++ [x]) limit = some R:=by rw [← e1]; exact Sv.impl_searchL hf ho h0 hl3 (by unfold fuel; omega) (Zdj hL hx) (by rw [Zmo,ZmJ]; omega)
      have e4:=Zjt (c:=R.1) hm hx
      have e2:Zay lits x = some (lits ++ [x]):=ZiL (by omega)
      rw [e1]
      by_cases h3:R.1 = 3
      · refine ⟨.inr (0, false), itE ?_ (by omega), by rw [Zmk h3]⟩
        simp only [hd,Zm8,hg,Zme,hwx,e2,e3]
        rw [Zmk (by simpa using h3)]
      · obtain ⟨z, g1, g2⟩ := ih (lits ++ [if R.1 = 2 then -x else x]) (w64 (w64 (2 * r) + bit ((if R.1 = 2 then -x else x) == b))) n (by omega) (Zdj hL (ZgN hx)) (by rw [Zmo, ZmJ]; omega) (by omega)
        refine ⟨z,?_,by rw [Zmj h3]; exact g2⟩
        rw [itS (s':=(w64 (w64 (2 * r) + bit ((if R.1 = 2 then -x else x) == b)),(k:Int) - 1,lits ++ [if R.1 = 2 then -x else x])) (by
          simp only [hd,Zm8,hg,Zme,hwx,e2,e3]
          rw [Zmj (by simpa using h3),e4,Zkp (by omega)]
          simp only [Zme,Zle,ew])]
        exact g1
  have el:w64 (len bits - 1) = (bits.length:Int) - 1:=by rw [Za,Zb (by omega) (by omega)]
  obtain ⟨z,g1,g2⟩:=key bits.length [top] 0 fuel (Zmy _) (fun y hy=>by rw [Zm5.1 hy]; exact hT) (by rw [ZmJ]; omega) (lt_fuel (by omega))
  unfold Yj
  rw [el]
  refine Eq.trans ?_ g2
  exact congrArg (fun o=>Option.bind o (fun (rl1:(Int × (List Int)) ⊕ (Int × Bool))=>match rl1 with | .inl s1r=>some (s1r.1,true) | .inr v=>some v)) g1
end
def bo (p t:D.Term):D.Term:=D.Term.mk 18 (w64 (1 + t.W)) 0 ⟨[]⟩ ([p,t]:List D.Term)
theorem Zeo {p t:D.Term} (h1:termB p = true) (h2:termB t = true):msz (bo p t) ≤ 1048576:=by
 unfold termB at h1 h2
 simp only [Zml,Zmp] at h1 h2
 have:=ZjC _ p (Zmy _) h1.1.2
 have:=ZjC _ t (Zmy _) h2.1.2
 rw [Zba]
 show (0:Nat) + 2 + mszs [p,t] ≤ _
 rw [ZaT,ZaT,ZeA]; omega
def leF (p t:D.Term):D.Formula:=formG (circT (bo p t)).1 1
def leM (p t:D.Term):Nat:=(lines (circT (bo p t)).1).toNat
def leT (p t:D.Term):Int:=(circT (bo p t)).2.1.getD t.W.toNat 0
def leB (p t:D.Term):List Int:=(circT (bo p t)).2.1.take t.W.toNat
noncomputable def leE (p t:D.Term) (limit:Int) (g:Bool):Int × Bool:=endP (leF p t) (leM p t) limit (leB p t) g (leB p t).length [leT p t] 0
structure LeOk (p t:D.Term):Prop where
 fg:FormG (circT (bo p t)).1 1
 circ:CircP (circT (bo p t)).1
 top:get? (circT (bo p t)).2.1 t.W = some (leT p t)
 topL:Sv.isL (leM p t) (leT p t)
 cut:cut? (circT (bo p t)).2.1 0 t.W = some (leB p t)
 bits:∀ x ∈ leB p t,Sv.isL (leM p t) x
 blen:(leB p t).length ≤ 100
theorem Zly {p t:D.Term} (h1:termB p = true) (h2:termB t = true) (hb:termB (bo p t) = true) (h3:(circT (bo p t)).2.2 = true):LeOk p t:=by
 obtain ⟨L,hT⟩:=Zk9 hb (Zeo h1 h2) h3
 have hn:nodeB t = true:=by
  unfold termB at h2
  simp only [Zml] at h2
  exact h2.1.2
 have hw:=Yr hn
 have hlen:(circT (bo p t)).2.1.length = t.W.toNat + 1:=by
  rw [hT.len]
  show (w64 (1 + t.W)).toNat = _
  rw [Zb (by omega) (by omega)]; omega
 have h0:=hT.circ.lines0
 have hwn:((t.W.toNat:Nat):Int) = t.W:=by omega
 have hk:t.W.toNat < (circT (bo p t)).2.1.length:=by omega
 have eT:leT p t = (circT (bo p t)).2.1[t.W.toNat]:=by unfold leT; rw [Zmm,Zmf hk]; rfl
 refine ⟨Zj5 hT.circ (Cc.litN_iff.2 (by unfold Cc.iab; simp; omega)),hT.circ,?_,?_,?_,fun x hx=>Zhe (hT.lits x (Zn9 hx)),by unfold leB; rw [Zmq]; omega⟩
 ·unfold get?
  rw [Zmk (by omega),eT,Zmf hk]
 ·rw [eT]; exact Zhe (hT.lits _ (ZmG hk))
 ·unfold cut? leB
  rw [Zmk (by omega)]; rfl
noncomputable def leaP (p t:D.Term) (limit:Int):Int × Int × Bool:=
 if termB p = true ∧ termB t = true ∧ p.W = 1 ∧ termB (bo p t) = true ∧ 0 ≤ limit ∧ limit ≤ 3000 then
  if (circT (bo p t)).2.2 = true then
   if (Sv.serL (leF p t) (leM p t) limit [leT p t]).1 = 1 then
    if (leE p t limit false).2 = true ∧ (leE p t limit true).2 = true then ((leE p t limit false).1,(leE p t limit true).1,true) else (0,0,false)
   else (0,0,false)
  else (0,0,false)
 else (0,0,false)
section
variable {p t:D.Term} {limit:Int}
theorem Zbk (h:¬ (termB p = true ∧ termB t = true ∧ p.W = 1 ∧ termB (bo p t) = true ∧ 0 ≤ limit ∧ limit ≤ 3000)):leaP p t limit = (0,0,false):=by unfold leaP; rw [Zmj h]
theorem ZkA (h:termB p = true ∧ termB t = true ∧ p.W = 1 ∧ termB (bo p t) = true ∧ 0 ≤ limit ∧ limit ≤ 3000):leaP p t limit = if (circT (bo p t)).2.2 = true then
   if (Sv.serL (leF p t) (leM p t) limit [leT p t]).1 = 1 then
    if (leE p t limit false).2 = true ∧ (leE p t limit true).2 = true then ((leE p t limit false).1,(leE p t limit true).1,true) else (0,0,false)
   else (0,0,false)
  else (0,0,false):=by unfold leaP; rw [Zmk h]
variable (hp:msz p ≤ 1048576) (ht:msz t ≤ 1048576)
include hp ht
theorem Zhr:Zan fuel p t limit = some (leaP p t limit):=by
 unfold Zan
 rw [Zau hp]
 simp only [Zme]
 by_cases h1:termB p = true
 rotate_left
 ·rw [Zbk (fun q => h1 q.1)]
  have h':termB p = false:=by simpa using h1
  rw [h']; rfl
 rw [h1,Zau ht]
 simp only [Zmw,ZmI,Zmg,Zmr,Zme]
 by_cases h2:termB t = true
 rotate_left
 ·rw [Zbk (fun q => h2 q.2.1)]
  have h':termB t = false:=by simpa using h2
  rw [h']; rfl
 by_cases hw:p.W = 1
 rotate_left
 ·rw [Zbk (fun q=>hw q.2.2.1),h2,show (p.W != 1) = true by simpa using hw]; rfl
 have hm:=Zeo h1 h2
 have e1:YO fuel (D.Term.mk 18 (w64 (1 + t.W)) 0 ⟨[]⟩ ([p,t]:List D.Term)) = some (termB (bo p t)):=Zau hm
 rw [h2,show (p.W != 1) = false by simpa using hw,e1,ZlJ]
 simp only [Zmw,ZmI,Zmg,Zmr,Zme]
 by_cases hb:termB (bo p t) = true
 rotate_left
 ·rw [Zbk (fun q => hb q.2.2.2.1)]
  have h':termB (bo p t) = false:=by simpa using hb
  rw [h']; rfl
 rw [hb]
 simp only [Zmw,ZmI,Zmg,Zmr,Zme]
 by_cases hl:0 ≤ limit ∧ limit ≤ 3000
 rotate_left
 ·rw [Zbk (fun q=>hl q.2.2.2.2),decide_eq_false hl]; rfl
 have e2:Xm fuel (D.Term.mk 18 (w64 (1 + t.W)) 0 ⟨[]⟩ ([p,t]:List D.Term)) = some (circT (bo p t)):=ZhJ hm
 rw [decide_eq_true hl,e2,ZkA ⟨h1,h2,hw,hb,hl⟩]
 simp only [Zmw,Zmg,Zmr,Zme]
 by_cases h3:(circT (bo p t)).2.2 = true
 rotate_left
 ·rw [Zmj h3,Zmk (by simpa using h3)]
 rw [Zmk h3,Zmj (by rw [h3]; decide)]
 obtain ⟨fg,hC,k1,k2,k3,k4,k5⟩:=Zly h1 h2 hb h3
 have hg:=hC.len
 have hsm:=fg.fm.small
 have hv:(leF p t).Vars = ((leM p t:Nat):Int):=fg.fm.vars
 rw [k1]
 simp only [Zme]
 rw [Cc.spec_FormulaOf_eq hC.fit (by omega),fg.eq]
 simp only [Zme]
 have hone:∀ x ∈ [leT p t],Sv.isL (leM p t) x:=fun x hx=>by rw [Zm5.1 hx]; exact k2
 have e3:YE fuel (formG (circT (bo p t)).1 1) [leT p t] limit = some (Sv.serL (leF p t) (leM p t) limit [leT p t]):=Sv.spec_searchL fg.fm hl.1 hl.2 (by unfold fuel; omega) hone (by simp) fg.spec (by
  show Y8 fuel [leT p t] (leF p t).Vars = _
  rw [hv]; exact ZhY hsm hone (by simp))
 rw [e3]
 simp only [Zme]
 by_cases h4:(Sv.serL (leF p t) (leM p t) limit [leT p t]).1 = 1
 rotate_left
 ·rw [Zmj h4,Zmk (by simpa using h4)]
 rw [Zmk h4,Zmj (by simpa using h4),k3]
 simp only [Zme]
 have e4:∀ g,XF fuel (formG (circT (bo p t)).1 1) [leT p t] (leB p t) g limit = some (leE p t limit g):=fun g=>Zj3 fg.fm fg.spec hl.1 hl.2 k4 k5 g hone (by simp)
 rw [e4,e4]
 simp only [Zme]
 cases (leE p t limit false).2 <;> cases (leE p t limit true).2 <;> simp
theorem ZhE:Zai fuel p t limit = some (leaP p t limit):=by
 unfold Zai
 rw [Zbv hp]
 simp only [Zme]
 by_cases h1:termB p = true
 rotate_left
 ·rw [Zbk (fun q => h1 q.1)]
  have h':termB p = false:=by simpa using h1
  rw [h']; rfl
 rw [h1,Zbv ht]
 simp only [Zmw,ZmI,Zmg,Zmr,Zme]
 by_cases h2:termB t = true
 rotate_left
 ·rw [Zbk (fun q => h2 q.2.1)]
  have h':termB t = false:=by simpa using h2
  rw [h']; rfl
 by_cases hw:p.W = 1
 rotate_left
 ·rw [Zbk (fun q=>hw q.2.2.1),h2,show (p.W != 1) = true by simpa using hw]; rfl
 have hm:=Zeo h1 h2
 have e1:YQ fuel (D.Term.mk 18 (w64 (1 + t.W)) 0 ⟨[]⟩ ([p,t]:List D.Term)) = some (termB (bo p t)):=Zbv hm
 rw [h2,show (p.W != 1) = false by simpa using hw,ZkZ]
 simp only [Zmw,ZmI,Zmg,Zmr,Zme]
 by_cases hl:0 ≤ limit ∧ limit ≤ 3000
 rotate_left
 ·rw [Zbk (fun q=>hl q.2.2.2.2),decide_eq_false hl]; rfl
 rw [decide_eq_true hl,e1]
 simp only [Zmw,ZmI,Zmg,Zmr,Zme]
 by_cases hb:termB (bo p t) = true
 rotate_left
 ·rw [Zbk (fun q => hb q.2.2.2.1)]
  have h':termB (bo p t) = false:=by simpa using hb
  rw [h']; rfl
 have e2:Xk fuel (D.Term.mk 18 (w64 (1 + t.W)) 0 ⟨[]⟩ ([p,t]:List D.Term)) = some (circT (bo p t)):=ZhK hm
 rw [hb,e2,ZkA ⟨h1,h2,hw,hb,hl⟩]
 simp only [Zmw,Zmg,Zmr,Zme]
 by_cases h3:(circT (bo p t)).2.2 = true
 rotate_left
 ·rw [Zmj h3,Zmk (by simpa using h3)]
 rw [Zmk h3,Zmj (by rw [h3]; decide)]
 obtain ⟨fg,hC,k1,k2,k3,k4,k5⟩:=Zly h1 h2 hb h3
 have hg:=hC.len
 have hsm:=fg.fm.small
 rw [Cc.impl_FormulaOf_eq hC.fit (by omega),fg.eq]
 simp only [Zme,Zmw,Zmg,Zmr]
 obtain ⟨occ,e5,ho⟩:=Sv.new_solver fg.fm (n:=fuel) (by unfold fuel; omega)
 rw [e5]
 simp only [Zme]
 rw [k1,k3]
 simp only [Zme]
 have hone:∀ x ∈ [leT p t],Sv.isL (leM p t) x:=fun x hx=>by rw [Zm5.1 hx]; exact k2
 have e3:ZZ fuel ⟨formG (circT (bo p t)).1 1,occ⟩ [leT p t] limit = some (Sv.serL (leF p t) (leM p t) limit [leT p t]):=Sv.impl_searchL fg.fm ho hl.1 hl.2 (by unfold fuel; omega) hone (by simp)
 rw [e3]
 simp only [Zme]
 by_cases h4:(Sv.serL (leF p t) (leM p t) limit [leT p t]).1 = 1
 rotate_left
 ·rw [Zmj h4,Zmk (by simpa using h4)]
 rw [Zmk h4,Zmj (by simpa using h4)]
 have e4:∀ (g:Bool) (w:Int),w = (if g = true then 1 else -1) → Yj fuel ⟨formG (circT (bo p t)).1 1,occ⟩ (leT p t) (leB p t) w limit = some (leE p t limit g):=fun g w hw=>Zkl fg.fm ho hl.1 hl.2 k4 k5 g hw k2
 rw [e4 false (-1) rfl,e4 true 1 rfl]
 simp only [Zme]
 cases (leE p t limit false).2 <;> cases (leE p t limit true).2 <;> simp
end
theorem fin_FnExactLeastOf (x:D.Term) (hx:Xg x) (y:D.Term) (hy:Xg y) (z:Int) (_:fitInt z):∃ n,Xj n x y z = some true:=by
 refine ⟨fuel,?_⟩
 unfold Xj
 obtain ⟨r1,h1,c1⟩:=(szT fuel).1 x 1048576 hx (by omega) (by omega) (by unfold fuel; omega)
 rw [h1]
 simp only [Zme]
 rcases c1 with c1 | ⟨c1,c2⟩
 ·rw [Zmk (by simpa using c1)]
 rw [Zmj (by simp; omega)]
 obtain ⟨r2,h2,d1⟩:=(szT fuel).1 y r1 hy (by omega) (by omega) (by unfold fuel; omega)
 rw [h2]
 simp only [Zme]
 rcases d1 with d1 | ⟨d1,d2⟩
 ·rw [Zmk (by simpa using d1)]
 rw [Zmj (by simp; omega)]
 have hs:msz x ≤ 1048576:=by omega
 have hs2:msz y ≤ 1048576:=by omega
 simp only [(toT fuel).1 x hs (by unfold fuel; omega),(eqT fuel).1 x hs (by unfold fuel; omega),(toT fuel).1 y hs2 (by unfold fuel; omega),(eqT fuel).1 y hs2 (by unfold fuel; omega),Zme,Zhr hs hs2,ZhE hs hs2]
 simp
end Go.Proofs.YtgpcokpcbjloiaaGreat
