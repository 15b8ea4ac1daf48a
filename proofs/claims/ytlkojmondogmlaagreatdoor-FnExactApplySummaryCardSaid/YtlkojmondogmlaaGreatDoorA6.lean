/- The plain law of this claim: ApplySummary. No program in sight. -/
import Derived.Test.YtlkojmondogmlaaGreatDoorPLib2
namespace Go.Proofs.YtlkojmondogmlaaGreatDoor
open Go.GL
set_option linter.unusedSimpArgs false
set_option maxRecDepth 100000
noncomputable def appF (p:D.Program) (s:D.Path) (_:Nat) (y:D.Path) (a:List D.Path):List D.Path ⊕ Unit:=
 match apv s y with
 | none=>.inr ()
 | some none=>.inl a
 | some (some q)=>if pathB p q = true then .inl (a ++ [q]) else .inr ()
def okY (p:D.Program) (y:D.Path):Bool:=pathB p y && ((len y.Turns) == (len y.Cond))
def appI (p:D.Program) (k:Nat) (a:List D.Path):Prop:=a.length ≤ k ∧ ∀ q ∈ a,pathB p q = true
theorem ZgM {p:D.Program} {s y:D.Path} {k:Nat} {a b:List D.Path} (h:appI p k a) (e:appF p s k y a = .inl b):appI p (k + 1) b:=by
 unfold appF at e
 split at e
 ·cases e
 ·cases e; exact ⟨by have:=h.1; omega,h.2⟩
 ·rename_i q _
  by_cases c:pathB p q = true
  ·rw [Zl6 c] at e
   cases e
   refine ⟨by have:=h.1; simp; omega,fun z hz=>?_⟩
   rcases Zma.1 hz with hz | hz
   ·exact h.2 z hz
   ·rw [Zm7] at hz; subst hz; exact c
  ·rw [Zl7 c] at e; cases e
noncomputable def apS (p:D.Program) (s:D.Path) (l:List D.Path):List D.Path × Bool:=
 if (pathB p s && (s.Code == 0) && decide (s.Pc < len p.Code) && decide (len s.Stack < 3) && (((get? p.Code s.Pc).map (·.Op)) == some 11) && l.all (okY p)) = true then
  match fol (appF p s) 0 l [] with
  | .inl r=>(r,true)
  | .inr _=>([],false)
 else ([],false)
theorem Zgk {p:D.Program} {l:List D.Path} {F:D.Path → Option Bool} (hl:l.length ≤ 1048576) (hF:∀ y ∈ l,F y = some (pathB p y)) :
    iterN (fun (s1:Int)=>
    if (decide (s1 < (len l))) then
     (get? l s1).bind fun x3=>
     (F x3).bind fun x4=>
     if ((!x4) || ((len x3.Turns) != (len x3.Cond))) then
      some (.inr (.inr (([]:List D.Path),false)))
     else
      some (.inl ((w64 (s1 + 1))))
    else
     some (.inr (.inl ()))) fuel 0 = some (if l.all (okY p) = true then (.inl ():Unit ⊕ ((List D.Path) × Bool)) else .inr (([]:List D.Path),false)):=by
  have:=Zjx (l:=l) (b:=okY p) (z:=(([]:List D.Path),false)) (fun x3 s1=>(F x3).bind fun x4=>
     if ((!x4) || ((len x3.Turns) != (len x3.Cond))) then
      some (.inr (.inr (([]:List D.Path),false)))
     else
      some (.inl ((w64 (s1 + 1))))) (fun k x hx=>by
    simp only [hF x (ZlC hx),Zlx]
    unfold okY
    cases pathB p x
    · simp
    · by_cases c : len x.Turns = len x.Cond
      · simp [c]
      · simp [c]) hl (Yy hl)
  exact this
theorem Zje {p:D.Program} {s:D.Path} {l:List D.Path} (hc:p.Code.length ≤ 1048576) (hs:smallP s) (hl:smallPS l):Xt fuel p s l = some (apS p s l):=by
  unfold Xt apS
  rw [ZcH hc hs]
  simp only [Zlx]
  by_cases b0:pathB p s = true
  rotate_left
  · have b0 : pathB p s = false := by simpa using b0
    rw [b0]; rfl
  have hm:=Zb2 b0
  rw [b0]
  by_cases b1:s.Code = 0
  rotate_left
  · rw [Zl6 (by simp [b1]),Zl7 (by simp [b1])]
  by_cases b2:s.Pc < len p.Code
  rotate_left
  · rw [Zl6 (by simp [show s.Pc = len p.Code from by omega]),Zl7 (by simp [b2])]
  have hst:len s.Stack = (s.Stack.length:Int):=Zg _
  by_cases b3:len s.Stack < 3
  rotate_left
  · rw [Zl6 (by simp [show len s.Stack = 3 from by omega]),Zl7 (by simp [b3])]
  have b2':¬ s.Pc = len p.Code:=by omega
  have b3':¬ len s.Stack = 3:=by omega
  rw [Zl7 (by simp [b1,b2',b3'])]
  have hg:∃ x,get? p.Code s.Pc = some x:=by
    rw [Zg] at b2
    obtain ⟨k,hk⟩ : ∃ k:Nat,s.Pc = k:=⟨s.Pc.toNat,by omega⟩
    rw [hk,get?_nat]
    exact ⟨_,Zl1 (by omega)⟩
  obtain ⟨x,hx⟩:=hg
  rw [hx]
  simp only [Zlx,Zl9]
  by_cases b4:x.Op = 11
  rotate_left
  · rw [Zl6 (by simp [b4]),Zl7 (by simp [b4])]
  rw [Zl7 (by simp [b4])]
  rw [Zgk (p:=p) (F:=fun y=>Xn fuel p y) hl.1 (fun y hy=>ZcH hc (hl.2 y hy))]
  by_cases b5:l.all (okY p) = true
  rotate_left
  · rw [Zl7 b5,Zl7 (by intro h; rw [Zl0] at h; exact b5 h.2)]; rfl
  rw [Zl6 b5,Zl6 (by simp [b1,b2,b3,b4]; simpa using b5)]
  simp only [Zlx]
  have hok:∀ y ∈ l,pathB p y = true ∧ y.Turns.length = y.Cond.length:=fun y hy=>by
    have:=(Zl8.1 b5) y hy
    unfold okY at this
    rw [Zl0,ZlW,Zg,Zg] at this
    exact ⟨this.1,by omega⟩
  have hl1:=hl.1
  have hh:=(Zbw (l:=l) (ρ:=(List D.Path) ⊕ ((List D.Path) × Bool)) (B:=fun (s2:Int × (List D.Path))=>
     if (decide (s2.1 < (len l))) then
      (get? l s2.1).bind fun x5=>
      (XP fuel p s x5).bind fun x6=>
      if (!x6.2.2) then
       some (.inr (.inr (([]:List D.Path),false)))
      else
       if x6.2.1 then
        (app? s2.2 ([x6.1]:List D.Path)).bind fun x7=>
        some (.inl ((w64 (s2.1 + 1)),x7))
       else
        some (.inl ((w64 (s2.1 + 1)),s2.2))
     else
      some (.inr (.inl (s2.2)))) (fun k a=>((k:Int),a)) (appF p s) (appI p) (fun r=>.inl r) (fun _=>.inr (([]:List D.Path),false))
    (fun k x a hx hk hI=>by
      have hd:decide ((k:Int) < len l) = true:=by rw [Zg]; simp; omega
      refine ⟨?_,fun b hb=>ZgM hI hb⟩
      obtain ⟨o1,o2⟩:=hok x (ZlC hx)
      have:=hI.1
      simp only [hd,ZlL,get?_nat,hx,Zlx,Zjg hc b0 b1 o1 o2]
      unfold appF
      cases apv s x with
      | none=>rfl
      | some q =>
        cases q with
        | none=>simp only [ZlD,Zly,Zl4]; rw [Zk (by omega) (by omega)]; rfl
        | some q =>
          cases hq:pathB p q
          · simp [hq]
          · simp only [ZlD, Zly, Zl4, ZlL, hq]
            rw [YS (by simp; omega)]
            simp only [Zlx]
            rw [Zk (by omega) (by omega)]; rfl)
    (fun a _=>by
      have hd:decide ((l.length:Int) < len l) = false:=by rw [Zg]; simp
      simp only [hd,Zly,Zl4]) l 0 [] fuel rfl (ZlY _) ⟨Zl3 _,fun q hq=>by cases hq⟩ (Yy hl1)).1
  rw [show ((0:Nat):Int) = 0 from rfl] at hh
  rw [hh]
  cases fol (appF p s) 0 l [] <;> rfl
theorem ZjQ {p:D.Program} {l:List D.Path} (hl:l.length ≤ 1048576) (h:∀ q ∈ l,pathB p q = true):Zab fuel l = some l:=by
 unfold Zab
 rw [Zg,Zhc hl]
 simp only [Zlx]
 have:=ZfX (l:=l) (n:=fuel) (b:=fun _=>true) (g:=fun x=>x) (E:=fun a=>a) (z:=[]) (z0:=(D.Path.mk 0 ([]:List D.Term) ([]:List D.Term) ([]:List Int) 0 ([]:List D.Term) 0 0 ([]:List D.Term) ([]:List Int))) (fun x2 (s1:Int × List D.Path)=>
  (XO fuel x2).bind fun x3=>
  (set? s1.2 s1.1 x3).bind fun x4=>
  some (.inl ((w64 (s1.1 + 1)),x4))) (fun k x a zs hx hk ha=>by
   simp only [ZiU (XF (h x (ZlC hx))).1,Zlx,set_mid ha]
   rfl) hl (Yy hl)
 rw [Zg] at this
 rw [this]
 simp
theorem Zj7 {p:D.Program} {s:D.Path} {l:List D.Path} (hc:p.Code.length ≤ 1048576) (hs:smallP s) (hl:smallPS l):YP fuel p s l = some (apS p s l) ∧ smallPS (apS p s l).1:=by
  have hz:smallPS []:=⟨by simp,fun x hx=>by cases hx⟩
  unfold YP XW Zce apS
  rw [ZdZ hc hs]
  simp only [Zlx]
  by_cases b0:pathB p s = true
  rotate_left
  · have b0 : pathB p s = false := by simpa using b0
    rw [b0]; exact ⟨rfl,hz⟩
  have hm:=Zb2 b0
  rw [b0]
  by_cases b1:s.Code = 0
  rotate_left
  · rw [Zl7 (by simp), Zl6 (by simp [b1]), Zl7 (c := (_ && _) = true) (by simp [b1])]
    exact ⟨rfl,hz⟩
  by_cases b2:s.Pc < len p.Code
  rotate_left
  · rw [Zl7 (by simp), Zl6 (by simp [show s.Pc ≥ len p.Code from by omega]), Zl7 (c := (_ && _) = true) (by simp [b2])]
    exact ⟨rfl,hz⟩
  have b2':¬ s.Pc ≥ len p.Code:=by omega
  have hg:∃ x,get? p.Code s.Pc = some x:=by
    rw [Zg] at b2
    obtain ⟨k,hk⟩ : ∃ k:Nat,s.Pc = k:=⟨s.Pc.toNat,by omega⟩
    rw [hk,get?_nat]
    exact ⟨_,Zl1 (by omega)⟩
  obtain ⟨x,hx⟩:=hg
  rw [Zl7 (by simp),Zl7 (by simp [b1,b2']),hx]
  simp only [Zlx,Zl9]
  by_cases b3:len s.Stack < 3
  rotate_left
  · rw [Zl6 (by simp [show len s.Stack ≥ 3 from by omega]), Zl7 (c := (_ && _) = true) (by simp [b3])]
    exact ⟨rfl,hz⟩
  have b3':¬ len s.Stack ≥ 3:=by omega
  by_cases b4:x.Op = 11
  rotate_left
  · rw [Zl6 (by simp [b4]), Zl7 (c := (_ && _) = true) (by simp [b4])]
    exact ⟨rfl,hz⟩
  rw [Zl7 (by simp [b4,b3'])]
  rw [Zgk (p:=p) (F:=fun y=>Xp fuel p y) hl.1 (fun y hy=>ZdZ hc (hl.2 y hy))]
  by_cases b5:l.all (okY p) = true
  rotate_left
  · rw [Zl7 b5,Zl7 (c:=(_ && _) = true) (by intro h; rw [Zl0] at h; exact b5 h.2)]; exact ⟨rfl,hz⟩
  rw [Zl6 b5,Zl6 (c:=(_ && _) = true) (by simp [b1,b2,b3,b4]; simpa using b5)]
  simp only [Zlx]
  have hok:∀ y ∈ l,pathB p y = true ∧ y.Turns.length = y.Cond.length:=fun y hy=>by
    have:=(Zl8.1 b5) y hy
    unfold okY at this
    rw [Zl0,ZlW,Zg,Zg] at this
    exact ⟨this.1,by omega⟩
  have hl1:=hl.1
  have hh:=(Zbw (l:=l) (ρ:=(List D.Path) ⊕ ((List D.Path) × Bool)) (B:=fun (s2:Int × (List D.Path))=>
    if (decide (s2.1 < (len l))) then
     (get? l s2.1).bind fun x5=>
     (ZaQ fuel p s x5).bind fun x6=>
     (if (!x6.2.1) then (if (!x6.2.2) then some default else (Xp fuel p x6.1)) else some default).bind fun x7=>
     if ((!x6.2.2) || ((!x6.2.1) && (!x7))) then
      some (.inr (.inr (([]:List D.Path),false)))
     else
      if (!x6.2.1) then
       (app? s2.2 ([x6.1]:List D.Path)).bind fun x8=>
       some (.inl ((w64 (s2.1 + 1)),x8))
      else
       some (.inl ((w64 (s2.1 + 1)),s2.2))
    else
     some (.inr (.inl (s2.2)))) (fun k a=>((k:Int),a)) (appF p s) (appI p) (fun r=>.inl r) (fun _=>.inr (([]:List D.Path),false))
    (fun k x a hx hk hI=>by
      have hd:decide ((k:Int) < len l) = true:=by rw [Zg]; simp; omega
      refine ⟨?_,fun b hb=>ZgM hI hb⟩
      obtain ⟨o1,o2⟩:=hok x (ZlC hx)
      have:=hI.1
      have hfin:=fun q=>Zh3 b0 o1 o2 (q:=q)
      simp only [hd,ZlL,get?_nat,hx,Zlx,ZjN b0 o1 o2]
      unfold appF
      cases hv:apv s x with
      | none=>rfl
      | some q =>
        cases q with
        | none=>simp only [ZlD,Zly,Zl4,Zlx,Zmm,Zmt]; rw [Zk (by omega) (by omega)]; rfl
        | some q =>
          have hq1:=ZdZ hc (ZcY (hfin q hv))
          simp only [ZmE,ZlD,Zly,Zl4,ZlL,hq1,Zlx,Zmm,ZlV]
          cases hq:pathB p q
          · simp [hq]
          · simp only [ZlD, Zly, Zl4, ZlL, hq]
            rw [YS (by simp; omega)]
            simp only [Zlx]
            rw [Zk (by omega) (by omega)]; rfl)
    (fun a _=>by
      have hd:decide ((l.length:Int) < len l) = false:=by rw [Zg]; simp
      simp only [hd,Zly,Zl4]) l 0 [] fuel rfl (ZlY _) ⟨Zl3 _,fun q hq=>by cases hq⟩ (Yy hl1))
  rw [show ((0:Nat):Int) = 0 from rfl] at hh
  rw [hh.1]
  cases e:fol (appF p s) 0 l [] with
  | inr _=>exact ⟨rfl,hz⟩
  | inl r =>
    obtain ⟨i1,i2⟩:=hh.2 r e
    simp only [Zlx,ZlD,Zly,Zl4,ZjQ (p:=p) (l:=r) (by omega) i2]
    exact ⟨trivial,by omega,fun q hq=>Zg8 (XF (i2 q hq)).1⟩
theorem fin_FnExactApplySummary (x:D.Program) (hx:Zcs x) (y:D.Path) (hy:Zc9 y) (z:List D.Path) (hz:fitList Zc9 z):∃ n,YE n x y z = some true:=by
 refine ⟨fuel,?_⟩
 unfold YE
 obtain ⟨r1,h1,c1⟩:=Zge (m:=1048576) hx (by omega) (by omega)
 rw [h1]
 simp only [Zlx]
 rcases c1 with c1 | ⟨c1,c1',s1⟩
 ·rw [Zl6 (by simpa using c1)]
 rw [Zl7 (by simp; omega)]
 obtain ⟨r2,h2,c2⟩:=Zf3 (m:=r1) hy c1 c1'
 rw [h2]
 simp only [Zlx]
 rcases c2 with c2 | ⟨c2,c2',s2⟩
 ·rw [Zl6 (by simpa using c2)]
 rw [Zl7 (by simp; omega)]
 obtain ⟨r3,h3,c3⟩:=Zhx (m:=r2) hz c2 (by omega)
 rw [h3]
 simp only [Zlx]
 rcases c3 with c3 | ⟨c3,s3⟩
 ·rw [Zl6 (by simpa using c3)]
 rw [Zl7 (by simp; omega)]
 obtain ⟨q1,s4⟩:=Zj7 s1 s2 s3
 obtain ⟨k1,t1,m1,b1,b1'⟩:=ZeA (x:=x) (k:=1) (by omega) (by omega) s1
 obtain ⟨k2,t2,m2,b2,b2'⟩:=Zi8 (x:=y) (k:=k1) s2 (by omega) (by omega)
 obtain ⟨k3,t3,m3,b3,b3'⟩:=Zhp (l:=z) (k:=k2) s3 (by omega) (by omega)
 obtain ⟨k4,t4,m4,b4,hh⟩:=ZgW s4
 have e1:¬ k3 < 0:=by omega
 have e2:¬ k4 < 0:=by omega
 simp [Zga s1,Zfq s2,ZgZ s3,Zje s1 s2 s3,q1,ZeM s1,Zeg s2,Zdm s3,Zdm s4,m1,m2,m3,m4,hh,e1,e2]
end Go.Proofs.YtlkojmondogmlaaGreatDoor
