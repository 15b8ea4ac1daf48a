/- The plain law of this claim: FnFormulas. No program in sight. -/
import Derived.Test.YtfkjefbonbinnaaPLib1
namespace Go.Proofs.Ytfkjefbonbinnaa
open Go.GL Sv
open Cc (CircP lines litN iab accF FU litV b2i)
set_option linter.unusedSimpArgs false
set_option maxRecDepth 100000
instance:FU fuel:=⟨by unfold fuel; omega⟩
theorem ZfH {n x:Int} (h:litN n x = true):isL n.toNat x:=by
 have:=Cc.litN_iff.1 h
 have ia:iab x = (x.natAbs:Int):=by unfold iab; split <;> omega
 rw [ia] at this
 exact ⟨by omega,by omega⟩
structure FormC (c:D.Circuit) (lit:Int):Prop where
 eq:Cc.formP c lit = (fmC c lit,true)
 fm:FmP (fmC c lit) (lines c).toNat
 spec:ZL fuel (fmC c lit) = some true
 impl:Zv fuel (fmC c lit) = some true
theorem ZbS {c:D.Circuit} (hC:CircP c) {lit:Int} (hl:litN (lines c) lit = true):FormC c lit:=by
 have h0:=hC.lines0
 have h1:=hC.lines1
 have hg:=hC.len
 have hi:=Cc.form_inc hC hl
 have hn:(fmC c lit).Clauses.length ≤ 1600:=by unfold fmC; simp only [Zgh,Cc.accF_len,Zg9,ZhG]; omega
 have hv:(fmC c lit).Vars = lines c:=rfl
 refine ⟨by unfold Cc.formP fmC; rw [Cc.circP_iff.2 hC,hl]; rfl,⟨by rw [hv]; omega,by omega,hn,fun x hx=>?_⟩,Cc.spec_fok (by rw [hv]; omega) (by rw [hv]; omega) hn fun x hx=>⟨(hi x hx).1,by have:=(hi x hx).2; omega⟩,Cc.impl_fok (by rw [hv]; omega) (by rw [hv]; omega) hn fun x hx=>⟨(hi x hx).1,by have:=(hi x hx).2; omega⟩⟩
 obtain ⟨⟨a1,a2⟩,a3⟩:=hi x hx
 refine ⟨⟨fun y hy=>ZfH (a1 y hy),a2.imp fun h=>?_⟩,by omega⟩
 have ia:∀ x:Int,iab x = (x.natAbs:Int):=fun x=>by unfold iab; split <;> omega
 rw [ia,ia] at h
 intro e; rw [e] at h; omega
theorem Zei {m:Nat} {cs:List (List Int)} (hcs:∀ c ∈ cs,ClM m c) {M:Nat → Bool} (h:Sat M cs):∃ w:List Bool,w.length = m ∧ isM cs w = true:=by
 refine ⟨(List.range m).map fun i=>M (i + 1),by simp,Za4.2 fun c hc=>?_⟩
 obtain ⟨x,hx,h1⟩:=h c hc
 have hL:=(hcs c hc).lit x hx
 refine ⟨x,hx,?_⟩
 have:vm ((List.range m).map fun i=>M (i + 1)) x.natAbs = M x.natAbs:=by
  have h1:=hL.1
  have h2:=hL.2
  unfold vm
  rw [ZfW,Zgx,ZhU (by omega)]
  show M (x.natAbs - 1 + 1) = _
  congr 1; omega
 unfold Sv.tr at h1 ⊢
 rw [this]; exact h1
theorem ZcC {c:D.Circuit} (hC:CircP c) (h6:c.Inputs ≤ 6) {lit:Int} (hl:litN (lines c) lit = true):((serP (fmC c lit) (lines c).toNat 3000).1 == 1) = decide (0 < (allB (lines c).toNat).countP (isM (fmC c lit).Clauses)):=by
 have F:=ZbS hC hl
 have h0:=hC.lines0
 have hz:=Zbj (lines c).toNat
 have e1:(serP (fmC c lit) (lines c).toNat 3000).1 = (brn (lines c).toNat (fmC c lit).Clauses 3000 ((lines c).toNat + 1) (List.replicate ((lines c).toNat + 1) 0) 0).1:=rfl
 rw [e1]
 obtain ⟨fy,fn⟩:=ZdI (limit:=3000) F.fm hz 0
 have hk:=Zex (lines c).toNat (fmC c lit).Clauses 3000 ((lines c).toNat + 1) (List.replicate ((lines c).toNat + 1) 0) 0 (by decide)
 have ext0:∀ M,Ext (lines c).toNat M (List.replicate ((lines c).toNat + 1) 0):=fun M x hx h=>by
  have hz0:∀ i,(List.replicate ((lines c).toNat + 1) (0:Int)).getD i 0 = 0:=fun i=>by
   rw [ZfW,ZgK]; split <;> rfl
  unfold lv at h
  rw [hz0] at h
  split at h <;> omega
 have n3:(brn (lines c).toNat (fmC c lit).Clauses 3000 ((lines c).toNat + 1) (List.replicate ((lines c).toNat + 1) 0) 0).1 ≠ 3:=by
  unfold brn
  cases hcl:clo (lines c).toNat (fmC c lit).Clauses (List.replicate ((lines c).toNat + 1) 0) with
  | none=>exact (by decide:(2:Int) ≠ 3)
  | some b=>
   have hok:=YO hcl
   have hu:uf c.Inputs.toNat b ≤ 7:=by
    have:uf c.Inputs.toNat b ≤ ((b.take (c.Inputs.toNat + 2)).drop 1).length:=ZhO
    have hi0:=hC.i0
    rw [ZgP,Zgq] at this
    omega
   have hp:2 ^ uf c.Inputs.toNat b ≤ 2 ^ 7:=Zhk (by decide) hu
   refine (few hC (by omega) F.fm _ b 0 hok.asg hok.cl (Zb8 hok.asg) ?_).1
   generalize 2 ^ uf c.Inputs.toNat b = z at *
   omega
 rw [Zhn]
 simp only [Zhd,Zgk,ZhS]
 constructor
 ·intro h
  obtain ⟨w,hw,h1⟩:=Zei F.fm.cls ((fy h).1.sat F.fm.cls)
  exact ⟨w,ZbK _ w hw,h1⟩
 ·rintro ⟨w, hw, h1⟩
  have hS:=Za4.1 h1
  rcases hk.code with h | h | h
  ·exact h
  ·exact absurd (ext0 (vm w)) (fn h _ hS)
  ·exact absurd h n3
theorem fin_FnFormulas (code:List Byt) (_:fitList fitByt code):∃ n,Yp n code = some true:=by
  refine ⟨fuel,?_⟩
  unfold Yp
  by_cases c0:len code > 1048576
  · rw [Zga (by simpa using c0)]
  rw [Zgb (by simpa using c0)]
  rw [Zc] at c0
  have hl:code.length ≤ 1048576:=by omega
  obtain ⟨c,ec,hC,hi1,hi6,hg7⟩:=Cc.giveC_ok (fuel:=fuel) hl (n:=0) (by decide)
  obtain ⟨x,ex,hx⟩:=Cc.giveL_ok (fuel:=fuel) hl (n:=40) (by decide) hC
  rw [ec]
  simp only [ZfT]
  rw [ex]
  simp only [ZfT]
  have F:=ZbS hC hx
  have h0:=hC.lines0
  have hL:lines c = c.Inputs + 1 + c.Gates.length:=rfl
  rw [Cc.impl_FormulaOf_eq hC.fit (by omega),F.eq]
  simp only [ZfT,Zgr,ZfY,Zgv,Zgy,F.spec]
  have hv:(fmC c x).Vars = lines c:=rfl
  have hvw:w64 ((w64 (c.Inputs + 1)) + (len c.Gates)) = lines c:=by rw [Zc,Zd (x:=c.Inputs + 1) (by omega) (by omega),Zd (by omega) (by omega),hL]
  rw [hv,hvw,Zgb (by simp)]
  obtain ⟨I,hI⟩ : ∃ I:Nat,c.Inputs = (I:Int):=⟨c.Inputs.toNat,by omega⟩
  have hIt:c.Inputs.toNat = I:=by omega
  have h2:2 ^ I ≤ 2 ^ 6:=Zhk (by decide) (by omega)
  have hQ:(List.range (2 ^ I)).countP (fun k=>tr (vm (evalG c.Gates (true :: bitsL I k))) x) = (allB (lines c).toNat).countP (isM (fmC c x).Clauses):=by
    rw [Zcw hC,hIt,← ZbN]
  have loop:iterN (fun (s1:Int × Int)=>
    (shl? 1 c.Inputs).bind fun x5=>
    if (decide (s1.2 < x5)) then
     (Y4 fuel c.Inputs s1.2).bind fun x6=>
     (Z7 fuel c x6).bind fun x7=>
     (ZH fuel (fmC c x) x7).bind fun x8=>
     (Yg fuel x7 ([x]:List Int)).bind fun x9=>
     if (!(x8 == (x9 == 1))) then
      some (.inr (.inr false))
     else
      (Yg fuel x7 ([x]:List Int)).bind fun x10=>
      some (.inl ((w64 (s1.1 + x10)),(w64 (s1.2 + 1))))
    else
     some (.inr (.inl (s1.1)))) fuel (0,0) = some (.inl (((List.range (2 ^ I)).countP (fun k=>tr (vm (evalG c.Gates (true :: bitsL I k))) x):Nat):Int):Int ⊕ Bool):=by
    refine Yb (I:=fun k s=>s = ((((List.range k).countP (fun k=>tr (vm (evalG c.Gates (true :: bitsL I k))) x):Nat):Int),(k:Int))) (m:=2 ^ I) (fun k s hk hs=>?_) (fun s hs=>?_) (2 ^ I) 0 (0,0) (by omega) rfl fuel (lt_fuel (by omega))
    all_goals subst hs
    · refine ⟨_, ?_, rfl⟩
      have hd:decide ((k:Int) < ((2 ^ I:Nat):Int)) = true:=decide_eq_true (by omega)
      have hle:=Zep (fun k=>tr (vm (evalG c.Gates (true :: bitsL I k))) x) k
      have hbl:=YZ I k
      have hEl:(evalG c.Gates (true :: bitsL I k)).length = (lines c).toNat:=by rw [Xa,Zg9,hbl]; omega
      have hev:=Zfj (fuel:=fuel) hC (v:=bitsL I k) (by omega)
      have hbo:=ZeJ (fuel:=fuel) (n:=c.Inputs) (k:=k) (by omega) (by omega) (by omega)
      rw [hIt] at hbo
      have hmo:ZH fuel (fmC c x) (evalG c.Gates (true :: bitsL I k)) = some (tr (vm (evalG c.Gates (true :: bitsL I k))) x):=by
        unfold ZH
        rw [F.impl]
        simp only [ZfT,Zgr,Zgy]
        rw [Zgb (by rw [Zc,hEl,hv]; simp; omega),Zcc F.fm hEl]
        simp only [ZfT]
        congr 1
        rw [Zhn,Za4]
        have hsat:Sat (vm (evalG c.Gates (true :: bitsL I k))) (accF c c.Gates.length):=by
          refine (Za9 hC (by omega)).2 ?_
          obtain ⟨z,ez⟩:=YK c.Gates (true :: bitsL I k)
          have:((evalG c.Gates (true :: bitsL I k)).drop 1).take I = bitsL I k:=by
            rw [ez,ZhM,List.drop_succ_cons,Zh6,Zhb (by omega),ZgU (by omega)]
          rw [hIt,this]
        constructor
        · intro h
          obtain ⟨y,hy,h1⟩:=h [x] (ZhJ _ (Zgo.2 rfl))
          rw [Zgo.1 hy] at h1; exact h1
        · intro h y hy
          rcases Zgu.1 hy with hy | hy
          · exact hsat y hy
          · rw [Zgo.1 hy]; exact ⟨x,Zgo.2 rfl,h⟩
      have hwo:Yg fuel (evalG c.Gates (true :: bitsL I k)) [x] = some (b2i (tr (vm (evalG c.Gates (true :: bitsL I k))) x)):=by
        rw [Cc.word_one (by omega) (by rw [hEl]; rw [show (((lines c).toNat:Nat):Int) = lines c by omega]; exact hx),Zc6]
      rw [hI,Za0 (by omega)]
      simp only [ZfT,hd,Zg6]
      rw [← hI,hbo]
      simp only [ZfT]
      rw [hev]
      simp only [ZfT]
      rw [hmo]
      simp only [ZfT]
      rw [hwo,Zbd]
      simp only [ZfT]
      rw [Zd (x:=(k:Int) + 1) (by omega) (by omega)]
      cases tr (vm (evalG c.Gates (true :: bitsL I k))) x
      · simp [b2i]; rw [Zd (by omega) (by omega)]
      · simp [b2i]; rw [Zd (by omega) (by omega)]
    · have hd : decide (((2 ^ I : Nat) : Int) < ((2 ^ I : Nat) : Int)) = false := decide_eq_false (by omega)
      rw [hI,Za0 (by omega)]
      simp only [ZfT,hd,ZfY,Zgv]
  have e5:Yd fuel (fmC c x) [] 3000 = some (serP (fmC c x) (lines c).toNat 3000):=ZbF F.fm (by decide) (by decide) (by unfold fuel; omega) F.impl
  have e6:=ZcC hC hi6 hx
  refine (congrArg (fun o=>Option.bind o (fun (rl1:(Int) ⊕ Bool)=>match rl1 with
   | .inl s1r=>
    (Zy fuel (fmC c x)).bind fun x11=>
    (Yd fuel (fmC c x) ([]:List Int) 3000).bind fun x12=>
    some (((x11 == s1r) || ((x11 == (-1)) && (decide (lines c > 12)))) && ((x12.1 == 1) == (decide (s1r > 0))))
   | .inr v=>some v)) loop).trans ?_
  simp only [ZfT]
  rw [e5,hQ]
  simp only [ZfT]
  have e7:(decide ((((allB (lines c).toNat).countP (isM (fmC c x).Clauses):Nat):Int) > 0)) = decide (0 < (allB (lines c).toNat).countP (isM (fmC c x).Clauses)):=by rw [Zhn]; simp only [Zgk]; omega
  by_cases h12:lines c ≤ 12
  · rw [Zet F.fm F.impl (by omega)]
    simp only [ZfT]
    rw [e6,e7]; simp
  · have ec:Zy fuel (fmC c x) = some (-1):=by
      unfold Zy
      rw [F.impl]
      simp only [ZfT]
      rw [Zga (by rw [hv]; simp; omega)]
    rw [ec]
    simp only [ZfT]
    rw [e6,e7,decide_eq_true (by omega:lines c > 12)]; simp
end Go.Proofs.Ytfkjefbonbinnaa
