/- Texts of this claim put into one: library or plain laws, without the program under test. -/
import Derived.Test.YtgpcokpcbjloiaaGreatPLib2
section
namespace Go.Proofs.YtgpcokpcbjloiaaGreat.Sv
open Go.GL
set_option linter.unusedSimpArgs false
set_option maxRecDepth 100000
section
variable {f:D.Formula} {m:Nat} {occ:List (List Int)} {limit:Int}
theorem Zka {l:List Int} (h:l.length ≤ 1000000):app? ([]:List Int) l = some l:=by
 unfold app? room
 rw [Zm7 (by simp; omega)]; rfl
theorem Zmm {a:List Int} (hA:Asg m a) {v:Nat} (h1:1 ≤ v) (h2:v ≤ m):set? a (v:Int) (-1) = some (stA a (-(v:Int))) ∧ set? a (v:Int) 1 = some (stA a (v:Int)):=by
 have:=hA.len
 have hb:0 ≤ (v:Int) ∧ (v:Int).toNat < a.length:=⟨by omega,by rw [Znn]; omega⟩
 unfold set? stA
 constructor
 ·rw [Zm7 hb,Zm7 (show -(v:Int) < 0 by omega),Znn,ZoL]; rfl
 ·rw [Zm7 hb,Zm6 (show ¬ (v:Int) < 0 by omega),Znn]; rfl
theorem ZlY (hf:FmP f m) (hl3:limit ≤ 3000):∀ (d:Nat) (v:List Int) (s:Int) (n:Nat),Asg m v → zer v ≤ d → 4000000 + d ≤ n → 0 ≤ s → s ≤ limit →
    Zw n ⟨f,limit,s,false⟩ v = some ((brn m f.Clauses limit d v s).2.1,D.Prf.mk,(brn m f.Clauses limit d v s).1 == 1,⟨f,limit,(brn m f.Clauses limit d v s).2.2,(brn m f.Clauses limit d v s).1 == 3⟩):=by
  intro d
  induction d with
  | zero =>
    intro v s n hA hz
    have:0 < zer v:=ZoW.2 (by
      have h1:=hA.nul
      have h2:=ZaR (a:=v) (i:=0) (by have:=hA.len; omega)
      rw [h1] at h2
      exact ZmA h2)
    omega
  | succ d ih =>
    intro v s n hA hz hn h0 hs
    obtain ⟨n,rfl⟩ : ∃ k,n = k + 1:=⟨n - 1,by omega⟩
    have hm:=hf.small
    have hvl:=hA.len
    obtain ⟨b,a,e1,e2⟩:=Zj9 hf hA (n:=n) (by omega)
    rw [Zw,e1]
    simp only [Zm1]
    rcases e2 with ⟨rfl,e2⟩ | ⟨rfl,e2⟩
    rotate_left
    · have hb : brn m f.Clauses limit (d + 1) v s = (2, [], s) := by unfold brn; rw [e2]
      rw [Zm7 (by decide),hb]; rfl
    have hb:brn m f.Clauses limit (d + 1) v s = srch m f.Clauses limit (d + 1) a s:=by unfold brn; rw [e2]
    have hok:=Zcr e2
    have hza:=Zhp hA hok
    have hal:=hok.asg.len
    rw [Zm6 (by decide),hb,Zc7]
    obtain ⟨w,hw,e3⟩:=Zlq (a:=a) (n:=n) (N:=len v) (by rw [Za]; omega) (by omega) (by omega)
    rw [e3,Zkg hw]
    simp only [Zm1]
    by_cases c1:w = 0
    · rw [Zm7 c1,Zm7 (by simp),Zm7 c1]; rfl
    rw [Zm6 c1]
    obtain ⟨k1,k2,k3,k4⟩:=ZgY hok.asg hw c1
    have hwm:1 ≤ w ∧ w ≤ m:=by have:=k1.2; omega
    rw [Zm6 (by rw [Za]; simp; omega),Zm6 c1]
    by_cases c2:s = limit
    · rw [Zm7 (by simpa using c2),Zm7 c2]; rfl
    rw [Zm6 (by simpa using c2),Zm6 c2]
    have e4:w64 (s + 1) = s + 1:=Zb (by omega) (by omega)
    obtain ⟨t1,t2⟩:=Zmm hok.asg hwm.1 hwm.2
    have one:∀ (l:Int),isL m l → lv a l = 0 → ∀ s':Int,0 ≤ s' → s' ≤ limit → Zw n ⟨f,limit,s',false⟩ (stA a l) = some ((brn m f.Clauses limit d (stA a l) s').2.1,D.Prf.mk,(brn m f.Clauses limit d (stA a l) s').1 == 1,⟨f,limit,(brn m f.Clauses limit d (stA a l) s').2.2,(brn m f.Clauses limit d (stA a l) s').1 == 3⟩):=fun l hl hl0 s' hs0 hs1=>by
      have hz1:=Zdi hok.asg hl hl0
      exact ih (stA a l) s' n (Zej hok.asg hl) (by omega) (by omega) hs0 hs1
    generalize hQ:(if (brn m f.Clauses limit d (stA a (-(w:Int))) (s + 1)).1 = 2 then brn m f.Clauses limit d (stA a (w:Int)) (brn m f.Clauses limit d (stA a (-(w:Int))) (s + 1)).2.2 else brn m f.Clauses limit d (stA a (-(w:Int))) (s + 1)) = Q
    have hb1:=Zgc m f.Clauses limit d (stA a (-(w:Int))) (s + 1) (by omega)
    have ha0:=Zka (l:=a) (by omega)
    have key:∃ r:(Int × Int × Bool × (List D.Prf)) ⊕ ((List Int) × D.Prf × Bool × D.l03Work),iterN (fun (s2:Int × Int × Int × Bool × (List D.Prf))=>
     if (decide (s2.1 < (len ([(-1),1]:List Int)))) then
      (get? ([(-1),1]:List Int) s2.1).bind fun x3=>
      (app? ([]:List Int) a).bind fun x4=>
      (set? x4 (w:Int) x3).bind fun x5=>
      (Zw n (D.l03Work.mk f s2.2.1 s2.2.2.1 s2.2.2.2.1) x5).bind fun x6=>
      if (x6.2.2.1 || x6.2.2.2.opn) then
       some (.inr (.inr (x6.1,D.Prf.mk,x6.2.2.1,(D.l03Work.mk f x6.2.2.2.limit x6.2.2.2.made x6.2.2.2.opn))))
      else
       (app? s2.2.2.2.2 [D.Prf.mk]).bind fun x7=>
       some (.inl ((w64 (s2.1 + 1)),x6.2.2.2.limit,x6.2.2.2.made,x6.2.2.2.opn,x7))
     else
      some (.inr (.inl (s2.2.1,s2.2.2.1,s2.2.2.2.1,s2.2.2.2.2)))) n (0,limit,w64 (s + 1),false,([]:List D.Prf)) = some r ∧
        (match r with | .inl s2r=>some (([]:List Int),D.Prf.mk,false,(D.l03Work.mk f s2r.1 s2r.2.1 s2r.2.2.1)) | .inr v=>some v) = some (Q.2.1,D.Prf.mk,Q.1 == 1,(⟨f,limit,Q.2.2,Q.1 == 3⟩ : D.l03Work)):=by
      rw [e4]
      obtain ⟨k,rfl⟩ : ∃ j,n = j + 3:=⟨n - 3,by omega⟩
      generalize hR1:brn m f.Clauses limit d (stA a (-(w:Int))) (s + 1) = R1 at *
      have second:∀ s':Int,0 ≤ s' → s' ≤ limit → ∃ r:(Int × Int × Bool × (List D.Prf)) ⊕ ((List Int) × D.Prf × Bool × D.l03Work),iterN (fun (s2:Int × Int × Int × Bool × (List D.Prf))=>
     if (decide (s2.1 < (len ([(-1),1]:List Int)))) then
      (get? ([(-1),1]:List Int) s2.1).bind fun x3=>
      (app? ([]:List Int) a).bind fun x4=>
      (set? x4 (w:Int) x3).bind fun x5=>
      (Zw (k + 3) (D.l03Work.mk f s2.2.1 s2.2.2.1 s2.2.2.2.1) x5).bind fun x6=>
      if (x6.2.2.1 || x6.2.2.2.opn) then
       some (.inr (.inr (x6.1,D.Prf.mk,x6.2.2.1,(D.l03Work.mk f x6.2.2.2.limit x6.2.2.2.made x6.2.2.2.opn))))
      else
       (app? s2.2.2.2.2 [D.Prf.mk]).bind fun x7=>
       some (.inl ((w64 (s2.1 + 1)),x6.2.2.2.limit,x6.2.2.2.made,x6.2.2.2.opn,x7))
     else
      some (.inr (.inl (s2.2.1,s2.2.2.1,s2.2.2.2.1,s2.2.2.2.2)))) (k + 2) (1,limit,s',false,[D.Prf.mk]) = some r ∧
          (match r with | .inl s2r=>some (([]:List Int),D.Prf.mk,false,(D.l03Work.mk f s2r.1 s2r.2.1 s2r.2.2.1)) | .inr v=>some v) = some ((brn m f.Clauses limit d (stA a (w:Int)) s').2.1,D.Prf.mk,(brn m f.Clauses limit d (stA a (w:Int)) s').1 == 1,(⟨f,limit,(brn m f.Clauses limit d (stA a (w:Int)) s').2.2,(brn m f.Clauses limit d (stA a (w:Int)) s').1 == 3⟩ : D.l03Work)):=fun s' hs0 hs1=>by
        have g:=one (w:Int) k1 k3 s' hs0 hs1
        have hk:=Zgc m f.Clauses limit d (stA a (w:Int)) s' hs1
        generalize brn m f.Clauses limit d (stA a (w:Int)) s' = R at *
        have hw2:w64 (1 + 1) = 2:=by decide
        by_cases c:R.1 = 2
        · refine ⟨.inl (limit, R.2.2, R.1 == 3, [D.Prf.mk, D.Prf.mk]), ?_, by rw [hk.nil (by omega), c]; rfl⟩
          rw [show k + 2 = (k + 1) + 1 from rfl,Zan (s':=(2,limit,R.2.2,R.1 == 3,[D.Prf.mk,D.Prf.mk])) (by
            show ((app? ([]:List Int) a).bind fun x4=>(set? x4 (w:Int) 1).bind fun x5=>(Zw (k + 3) (D.l03Work.mk f limit s' false) x5).bind _) = _
            rw [ha0]
            simp only [Zm1]
            rw [t2]
            simp only [Zm1]
            rw [g]
            simp only [Zm1]
            rw [Zm6 (by rw [c]; decide),hw2]; rfl)]
          exact ZC rfl (by omega)
        · refine ⟨.inr (R.2.1, D.Prf.mk, R.1 == 1, ⟨f, limit, R.2.2, R.1 == 3⟩), ?_, rfl⟩
          refine ZC ?_ (by omega)
          show ((app? ([]:List Int) a).bind fun x4=>(set? x4 (w:Int) 1).bind fun x5=>(Zw (k + 3) (D.l03Work.mk f limit s' false) x5).bind _) = _
          rw [ha0]
          simp only [Zm1]
          rw [t2]
          simp only [Zm1]
          rw [g]
          simp only [Zm1]
          rw [Zm7 (by rcases hk.code with h | h | h <;> simp [h] at c ⊢)]
      have g:=one (-(w:Int)) k2 k4 (s + 1) (by omega) (by omega)
      rw [hR1] at g
      have hw1:w64 (0 + 1) = 1:=by decide
      by_cases c:R1.1 = 2
      · obtain ⟨r, q1, q2⟩ := second R1.2.2 (by have := hb1.lo; omega) hb1.hi
        refine ⟨r,?_,?_⟩
        · rw [show k + 3 = (k + 2) + 1 from rfl,Zan (s':=(1,limit,R1.2.2,false,[D.Prf.mk])) (by
            show ((app? ([]:List Int) a).bind fun x4=>(set? x4 (w:Int) (-1)).bind fun x5=>(Zw (k + 3) (D.l03Work.mk f limit (s + 1) false) x5).bind _) = _
            rw [ha0]
            simp only [Zm1]
            rw [t1]
            simp only [Zm1]
            rw [g]
            simp only [Zm1]
            rw [Zm6 (by rw [c]; decide),hw1,c]; rfl)]
          exact q1
        · rw [← hQ,Zm7 c]; exact q2
      · refine ⟨.inr (R1.2.1, D.Prf.mk, R1.1 == 1, ⟨f, limit, R1.2.2, R1.1 == 3⟩), ?_, by rw [← hQ, Zm6 c]⟩
        refine ZC ?_ (by omega)
        show ((app? ([]:List Int) a).bind fun x4=>(set? x4 (w:Int) (-1)).bind fun x5=>(Zw (k + 3) (D.l03Work.mk f limit (s + 1) false) x5).bind _) = _
        rw [ha0]
        simp only [Zm1]
        rw [t1]
        simp only [Zm1]
        rw [g]
        simp only [Zm1]
        rw [Zm7 (by rcases hb1.code with h | h | h <;> simp [h] at c ⊢)]
    obtain ⟨r,q1,q2⟩:=key
    refine Eq.trans ?_ q2
    exact congrArg (fun o=>Option.bind o (fun (rl2:(Int × Int × Bool × (List D.Prf)) ⊕ ((List Int) × D.Prf × Bool × D.l03Work))=>match rl2 with | .inl s2r=>some (([]:List Int),D.Prf.mk,false,(D.l03Work.mk f s2r.1 s2r.2.1 s2r.2.2.1)) | .inr v=>some v)) q1
end
section
variable {f:D.Formula} {m:Nat} {limit:Int}
noncomputable def serP (f:D.Formula) (m:Nat) (limit:Int):Int × List Bool × Int:=
 let r:=brn m f.Clauses limit (m + 1) (List.replicate (m + 1) 0) 0
 (r.1,if r.1 = 1 then bls r.2.1 else [],r.2.2)
theorem Zi9 {a:List Int} (hA:Asg m a):zer a ≤ m + 1:=by
 have:=List.count_le_length (a:=(0:Int)) (l:=a)
 have:=hA.len
 unfold zer; omega
theorem impl_search (hf:FmP f m) (h0:0 ≤ limit) (hl3:limit ≤ 3000) {n:Nat} (hn:4002000 ≤ n) (hk:YT n f = some true):ZaC n f [] limit = some (serP f m limit):=by
 have hm:=hf.small
 obtain ⟨occ,e1,ho⟩:=ZhD hf (n:=n) (by omega)
 have e0:Yn n [] f.Vars = some true:=by
  unfold Yn
  rw [ZC (r:=.inl ()) (by simp [len]) (by omega)]; rfl
 have e2:Xe limit = some true:=by unfold Xe; simp; omega
 unfold ZaC
 rw [hk]
 simp only [Zm1,ZmK,Zm3,ZmE,Znj,e0,e2,e1]
 obtain ⟨a',b,g1,g2⟩:=start_eq hf ho (n:=n) (by omega)
 unfold Xv serP brn
 rw [g1]
 simp only [Zm1]
 rcases g2 with ⟨rfl,g3,g4⟩ | ⟨rfl,g4⟩
 ·have hok := Zcr g4
  rw [Zm6 (by decide),g4]
  have:=ZlS hf ho hl3 (m + 1) a'.val a'.queue 0 [] n hok.asg hok.cl (Zi9 hok.asg) (by omega) (by omega) h0
  rw [show a' = ⟨a'.val,a'.queue⟩ from rfl,this]; rfl
 ·rw [Zm7 (by decide),g4]; rfl
theorem Zki {a:List Int} (hA:Asg m a) (hm:m ≤ 400) {n:Nat} (hn:2000 ≤ n):iterN (fun (s1:Int × (List Bool))=>
     if (decide (s1.1 < (len (a.drop 1)))) then
      (get? (a.drop 1) s1.1).bind fun x7=>
      (app? s1.2 ([(decide (x7 > 0))]:List Bool)).bind fun x8=>
      some (.inl ((w64 (s1.1 + 1)),x8))
     else
      some (.inr (s1.2))) n (0,([]:List Bool)) = some (bls a):=by
  have hlen:=hA.len
  have hd:(a.drop 1).length = m:=by rw [ZmV]; omega
  have key:∀ (d i k:Nat),i + d = m → d < k → iterN (fun (s1:Int × (List Bool))=>
     if (decide (s1.1 < (len (a.drop 1)))) then
      (get? (a.drop 1) s1.1).bind fun x7=>
      (app? s1.2 ([(decide (x7 > 0))]:List Bool)).bind fun x8=>
      some (.inl ((w64 (s1.1 + 1)),x8))
     else
      some (.inr (s1.2))) k ((i:Int),(bls a).take i) = some (bls a):=by
    intro d
    induction d with
    | zero =>
      intro i k hi hk
      have hd':decide ((i:Int) < len (a.drop 1)) = false:=by rw [Za,hd]; exact decide_eq_false (by omega)
      refine ZC ?_ (by omega)
      simp only [hd',Zm3,ZmE]
      rw [Znw (by rw [bls_len hA]; omega)]
    | succ d ih =>
      intro i k hi hk
      obtain ⟨k,rfl⟩ : ∃ j,k = j + 1:=⟨k - 1,by omega⟩
      have hd':decide ((i:Int) < len (a.drop 1)) = true:=by rw [Za,hd]; exact decide_eq_true (by omega)
      have e1:w64 ((i:Int) + 1) = ((i + 1:Nat):Int):=by rw [Zb (by omega) (by omega)]; rfl
      have hil:i < (bls a).length:=by rw [bls_len hA]; omega
      have hig:i < (a.drop 1).length:=by omega
      rw [Zan (s':=(((i + 1:Nat):Int),(bls a).take (i + 1))) (by
        simp only [hd',ZmZ,e1]
        rw [get?_nat,Zm2 hig]
        simp only [Zm1]
        rw [Zi4 (by rw [ZmD]; omega)]
        simp only [Zm1]
        rw [ZmW hil]
        simp only [bls,List.getElem_map])]
      exact ih (i + 1) k (by omega) (by omega)
  exact key m 0 n (by omega) (by omega)
theorem ZjF (hm:m ≤ 400) {n:Nat} (hn:1 ≤ n):Za6 n (m:Int) [] = some (List.replicate (m + 1) 0,true):=by
 unfold Za6
 rw [Zb (by omega) (by omega),show ((m:Int) + 1) = ((m + 1:Nat):Int) from rfl,Zgb (by omega)]
 simp only [Zm1]
 rw [ZC (r:=.inl (List.replicate (m + 1) 0)) (by simp [len]) (by omega)]; rfl
theorem ZgM {cs:List (List Int)}:∀ (d:Nat) (a:List Int) (s:Int),Asg m a → (srch m cs limit d a s).1 = 1 → Asg m (srch m cs limit d a s).2.1
 | 0,_,_,_,h=>by simp [srch] at h
 | d + 1,a,s,hA,h=>by
  have hb:∀ (v:List Int) (s':Int),(brn m cs limit d v s').1 = 1 → Asg m (brn m cs limit d v s').2.1:=fun v s' h'=>by
   unfold brn at h' ⊢
   cases hc:clo m cs v with
   | none=>rw [hc] at h'; simp at h'
   | some b=>rw [hc] at h'; exact ZgM d b s' (Zcr hc).asg h'
  rw [Zc7] at h ⊢
  by_cases c1:lfr a = 0
  ·rw [Zm7 c1]; exact hA
  rw [Zm6 c1] at h ⊢
  by_cases c2:s = limit
  ·rw [Zm7 c2] at h; simp at h
  rw [Zm6 c2] at h ⊢
  by_cases c3:(brn m cs limit d (stA a (-(lfr a:Int))) (s + 1)).1 = 2
  ·rw [Zm7 c3] at h ⊢; exact hb _ _ h
  ·rw [Zm6 c3] at h ⊢; exact hb _ _ h
theorem brn_asg {cs:List (List Int)} (d:Nat) (v:List Int) (s:Int) (h:(brn m cs limit d v s).1 = 1):Asg m (brn m cs limit d v s).2.1:=by
 unfold brn at h ⊢
 cases hc:clo m cs v with
 | none=>rw [hc] at h; simp at h
 | some b=>rw [hc] at h; exact ZgM d b s (Zcr hc).asg h
theorem spec_search (hf:FmP f m) (h0:0 ≤ limit) (hl3:limit ≤ 3000) {n:Nat} (hn:4002000 ≤ n) (hk:YS n f = some true):ZaA n f [] limit = some (serP f m limit):=by
 have hm:=hf.small
 have e0:YN n [] f.Vars = some true:=by
  unfold YN
  rw [ZC (r:=.inl ()) (by simp [len]) (by omega)]; rfl
 have e2:Zg limit 0 3000 = some true:=by unfold Zg; simp; omega
 unfold ZaA
 rw [hk]
 simp only [Zm1,ZmK,Zm3,ZmE,Znj,e0,e2]
 rw [hf.vars,ZjF hm (by omega)]
 simp only [Zm1,ZmK,Zm3,ZmE]
 have hz:=ZfD m
 rw [ZlY hf hl3 (m + 1) _ 0 n hz (Zi9 hz) (by omega) (by omega) h0]
 simp only [Zm1]
 unfold serP
 have hb:=Zgc m f.Clauses limit (m + 1) (List.replicate (m + 1) 0) 0 h0
 have hasg:(brn m f.Clauses limit (m + 1) (List.replicate (m + 1) 0) 0).1 = 1 → Asg m (brn m f.Clauses limit (m + 1) (List.replicate (m + 1) 0) 0).2.1:=fun h=>brn_asg _ _ _ h
 generalize brn m f.Clauses limit (m + 1) (List.replicate (m + 1) 0) 0 = R at *
 dsimp only
 by_cases c:R.1 = 1
 ·have hA := hasg c
  have hlen:=hA.len
  rw [Zm6 (by rw [c]; decide),Zm7 c,c]
  have e4:cut? R.2.1 1 (len R.2.1) = some (R.2.1.drop 1):=by
   unfold cut?
   rw [Za,Zm7 (by omega),Znn,Zno]; rfl
  rw [e4]
  simp only [Zm1]
  rw [Zki hA hm (by omega)]; rfl
 ·rw [Zm7 (by simpa using c), Zm6 c]
  rcases hb.code with h | h | h
  ·exact absurd h c
  ·rw [Zm6 (by rw [h]; decide),h]
  ·rw [Zm7 (by rw [h]; decide),h]
end
end Go.Proofs.YtgpcokpcbjloiaaGreat.Sv
end
