/- Texts of this claim put into one: library or plain laws, without the program under test. -/
import Derived.Test.YtgpcokpcbjloiaaGreatPLib2
section
namespace Go.Proofs.YtgpcokpcbjloiaaGreat.Sv
open Go.GL
set_option linter.unusedSimpArgs false
set_option maxRecDepth 100000
section
variable {f:D.Formula} {m:Nat} {occ:List (List Int)} {limit:Int}
theorem ZkK {l:List Int} (h:l.length ≤ 1000000):app? ([]:List Int) l = some l:=by
 unfold app? room
 rw [ZmJ (by simp; omega)]; rfl
theorem Zm4 {a:List Int} (hA:Asg m a) {v:Nat} (h1:1 ≤ v) (h2:v ≤ m):set? a (v:Int) (-1) = some (stA a (-(v:Int))) ∧ set? a (v:Int) 1 = some (stA a (v:Int)):=by
 have:=hA.len
 have hb:0 ≤ (v:Int) ∧ (v:Int).toNat < a.length:=⟨by omega,by rw [Znz]; omega⟩
 unfold set? stA
 constructor
 ·rw [ZmJ hb,ZmJ (show -(v:Int) < 0 by omega),Znz,ZoX]; rfl
 ·rw [ZmJ hb,ZmI (show ¬ (v:Int) < 0 by omega),Znz]; rfl
theorem Zmk (hf:FmP f m) (hl3:limit ≤ 3000):∀ (d:Nat) (v:List Int) (s:Int) (n:Nat),Asg m v → zer v ≤ d → 4000000 + d ≤ n → 0 ≤ s → s ≤ limit →
    Zx n ⟨f,limit,s,false⟩ v = some ((brn m f.Clauses limit d v s).2.1,D.Prf.mk,(brn m f.Clauses limit d v s).1 == 1,⟨f,limit,(brn m f.Clauses limit d v s).2.2,(brn m f.Clauses limit d v s).1 == 3⟩):=by
  intro d
  induction d with
  | zero =>
    intro v s n hA hz
    have:0 < zer v:=Zpi.2 (by
      have h1:=hA.nul
      have h2:=Zbb (a:=v) (i:=0) (by have:=hA.len; omega)
      rw [h1] at h2
      exact ZmM h2)
    omega
  | succ d ih =>
    intro v s n hA hz hn h0 hs
    obtain ⟨n,rfl⟩ : ∃ k,n = k + 1:=⟨n - 1,by omega⟩
    have hm:=hf.small
    have hvl:=hA.len
    obtain ⟨b,a,e1,e2⟩:=Zji hf hA (n:=n) (by omega)
    rw [Zx,e1]
    simp only [ZmD]
    rcases e2 with ⟨rfl,e2⟩ | ⟨rfl,e2⟩
    rotate_left
    · have hb : brn m f.Clauses limit (d + 1) v s = (2, [], s) := by unfold brn; rw [e2]
      rw [ZmJ (by decide),hb]; rfl
    have hb:brn m f.Clauses limit (d + 1) v s = srch m f.Clauses limit (d + 1) a s:=by unfold brn; rw [e2]
    have hok:=Zck e2
    have hza:=Zg5 hA hok
    have hal:=hok.asg.len
    rw [ZmI (by decide),hb,Zc3]
    obtain ⟨w,hw,e3⟩:=Zlv (a:=a) (n:=n) (N:=len v) (by rw [Za]; omega) (by omega) (by omega)
    rw [e3,Zlc hw]
    simp only [ZmD]
    by_cases c1:w = 0
    · rw [ZmJ c1,ZmJ (by simp),ZmJ c1]; rfl
    rw [ZmI c1]
    obtain ⟨k1,k2,k3,k4⟩:=Zha hok.asg hw c1
    have hwm:1 ≤ w ∧ w ≤ m:=by have:=k1.2; omega
    rw [ZmI (by rw [Za]; simp; omega),ZmI c1]
    by_cases c2:s = limit
    · rw [ZmJ (by simpa using c2),ZmJ c2]; rfl
    rw [ZmI (by simpa using c2),ZmI c2]
    have e4:w64 (s + 1) = s + 1:=Zb (by omega) (by omega)
    obtain ⟨t1,t2⟩:=Zm4 hok.asg hwm.1 hwm.2
    have one:∀ (l:Int),isL m l → lv a l = 0 → ∀ s':Int,0 ≤ s' → s' ≤ limit → Zx n ⟨f,limit,s',false⟩ (stA a l) = some ((brn m f.Clauses limit d (stA a l) s').2.1,D.Prf.mk,(brn m f.Clauses limit d (stA a l) s').1 == 1,⟨f,limit,(brn m f.Clauses limit d (stA a l) s').2.2,(brn m f.Clauses limit d (stA a l) s').1 == 3⟩):=fun l hl hl0 s' hs0 hs1=>by
      have hz1:=Zde hok.asg hl hl0
      exact ih (stA a l) s' n (Zeq hok.asg hl) (by omega) (by omega) hs0 hs1
    generalize hQ:(if (brn m f.Clauses limit d (stA a (-(w:Int))) (s + 1)).1 = 2 then brn m f.Clauses limit d (stA a (w:Int)) (brn m f.Clauses limit d (stA a (-(w:Int))) (s + 1)).2.2 else brn m f.Clauses limit d (stA a (-(w:Int))) (s + 1)) = Q
    have hb1:=Zgd m f.Clauses limit d (stA a (-(w:Int))) (s + 1) (by omega)
    have ha0:=ZkK (l:=a) (by omega)
    have key:∃ r:(Int × Int × Bool × (List D.Prf)) ⊕ ((List Int) × D.Prf × Bool × D.l03Work),iterN (fun (s2:Int × Int × Int × Bool × (List D.Prf))=>
     if (decide (s2.1 < (len ([(-1),1]:List Int)))) then
      (get? ([(-1),1]:List Int) s2.1).bind fun x3=>
      (app? ([]:List Int) a).bind fun x4=>
      (set? x4 (w:Int) x3).bind fun x5=>
      (Zx n (D.l03Work.mk f s2.2.1 s2.2.2.1 s2.2.2.2.1) x5).bind fun x6=>
      if (x6.2.2.1 || x6.2.2.2.opn) then
       some (.inr (.inr (x6.1,D.Prf.mk,x6.2.2.1,(D.l03Work.mk f x6.2.2.2.limit x6.2.2.2.made x6.2.2.2.opn))))
      else
       (app? s2.2.2.2.2 [D.Prf.mk]).bind fun x7=>
       some (.inl ((w64 (s2.1 + 1)),x6.2.2.2.limit,x6.2.2.2.made,x6.2.2.2.opn,x7))
     else
      some (.inr (.inl (s2.2.1,s2.2.2.1,s2.2.2.2.1,s2.2.2.2.2)))) n (0,limit,w64 (s + 1),false,([]:List D.Prf)) = some r ∧
        (match r with | .inl s2r=>some (([]:List Int),D.Prf.mk,false,(D.l03Work.mk f s2r.1 s2r.2.1 s2r.2.2.1)) | .inr v=>some v) = some (Q.2.1,D.Prf.mk,Q.1 == 1,(⟨f,limit,Q.2.2,Q.1 == 3⟩ : D.l03Work)):=by
      rw [e4]
      obtain ⟨k,rfl⟩ : ∃ j,n = j + 3:=⟨n - 3,by omega⟩
      generalize hR1:brn m f.Clauses limit d (stA a (-(w:Int))) (s + 1) = R1 at *
      have second:∀ s':Int,0 ≤ s' → s' ≤ limit → ∃ r:(Int × Int × Bool × (List D.Prf)) ⊕ ((List Int) × D.Prf × Bool × D.l03Work),iterN (fun (s2:Int × Int × Int × Bool × (List D.Prf))=>
     if (decide (s2.1 < (len ([(-1),1]:List Int)))) then
      (get? ([(-1),1]:List Int) s2.1).bind fun x3=>
      (app? ([]:List Int) a).bind fun x4=>
      (set? x4 (w:Int) x3).bind fun x5=>
      (Zx (k + 3) (D.l03Work.mk f s2.2.1 s2.2.2.1 s2.2.2.2.1) x5).bind fun x6=>
      if (x6.2.2.1 || x6.2.2.2.opn) then
       some (.inr (.inr (x6.1,D.Prf.mk,x6.2.2.1,(D.l03Work.mk f x6.2.2.2.limit x6.2.2.2.made x6.2.2.2.opn))))
      else
       (app? s2.2.2.2.2 [D.Prf.mk]).bind fun x7=>
       some (.inl ((w64 (s2.1 + 1)),x6.2.2.2.limit,x6.2.2.2.made,x6.2.2.2.opn,x7))
     else
      some (.inr (.inl (s2.2.1,s2.2.2.1,s2.2.2.2.1,s2.2.2.2.2)))) (k + 2) (1,limit,s',false,[D.Prf.mk]) = some r ∧
          (match r with | .inl s2r=>some (([]:List Int),D.Prf.mk,false,(D.l03Work.mk f s2r.1 s2r.2.1 s2r.2.2.1)) | .inr v=>some v) = some ((brn m f.Clauses limit d (stA a (w:Int)) s').2.1,D.Prf.mk,(brn m f.Clauses limit d (stA a (w:Int)) s').1 == 1,(⟨f,limit,(brn m f.Clauses limit d (stA a (w:Int)) s').2.2,(brn m f.Clauses limit d (stA a (w:Int)) s').1 == 3⟩ : D.l03Work)):=fun s' hs0 hs1=>by
        have g:=one (w:Int) k1 k3 s' hs0 hs1
        have hk:=Zgd m f.Clauses limit d (stA a (w:Int)) s' hs1
        generalize brn m f.Clauses limit d (stA a (w:Int)) s' = R at *
        have hw2:w64 (1 + 1) = 2:=by decide
        by_cases c:R.1 = 2
        · refine ⟨.inl (limit, R.2.2, R.1 == 3, [D.Prf.mk, D.Prf.mk]), ?_, by rw [hk.nil (by omega), c]; rfl⟩
          rw [show k + 2 = (k + 1) + 1 from rfl,Zat (s':=(2,limit,R.2.2,R.1 == 3,[D.Prf.mk,D.Prf.mk])) (by
            show ((app? ([]:List Int) a).bind fun x4=>(set? x4 (w:Int) 1).bind fun x5=>(Zx (k + 3) (D.l03Work.mk f limit s' false) x5).bind _) = _
            rw [ha0]
            simp only [ZmD]
            rw [t2]
            simp only [ZmD]
            rw [g]
            simp only [ZmD]
            rw [ZmI (by rw [c]; decide),hw2]; rfl)]
          exact ZC rfl (by omega)
        · refine ⟨.inr (R.2.1, D.Prf.mk, R.1 == 1, ⟨f, limit, R.2.2, R.1 == 3⟩), ?_, rfl⟩
          refine ZC ?_ (by omega)
          show ((app? ([]:List Int) a).bind fun x4=>(set? x4 (w:Int) 1).bind fun x5=>(Zx (k + 3) (D.l03Work.mk f limit s' false) x5).bind _) = _
          rw [ha0]
          simp only [ZmD]
          rw [t2]
          simp only [ZmD]
          rw [g]
          simp only [ZmD]
          rw [ZmJ (by rcases hk.code with h | h | h <;> simp [h] at c ⊢)]
      have g:=one (-(w:Int)) k2 k4 (s + 1) (by omega) (by omega)
      rw [hR1] at g
      have hw1:w64 (0 + 1) = 1:=by decide
      by_cases c:R1.1 = 2
      · obtain ⟨r, q1, q2⟩ := second R1.2.2 (by have := hb1.lo; omega) hb1.hi
        refine ⟨r,?_,?_⟩
        · rw [show k + 3 = (k + 2) + 1 from rfl,Zat (s':=(1,limit,R1.2.2,false,[D.Prf.mk])) (by
            show ((app? ([]:List Int) a).bind fun x4=>(set? x4 (w:Int) (-1)).bind fun x5=>(Zx (k + 3) (D.l03Work.mk f limit (s + 1) false) x5).bind _) = _
            rw [ha0]
            simp only [ZmD]
            rw [t1]
            simp only [ZmD]
            rw [g]
            simp only [ZmD]
            rw [ZmI (by rw [c]; decide),hw1,c]; rfl)]
          exact q1
        · rw [← hQ,ZmJ c]; exact q2
      · refine ⟨.inr (R1.2.1, D.Prf.mk, R1.1 == 1, ⟨f, limit, R1.2.2, R1.1 == 3⟩), ?_, by rw [← hQ, ZmI c]⟩
        refine ZC ?_ (by omega)
        show ((app? ([]:List Int) a).bind fun x4=>(set? x4 (w:Int) (-1)).bind fun x5=>(Zx (k + 3) (D.l03Work.mk f limit (s + 1) false) x5).bind _) = _
        rw [ha0]
        simp only [ZmD]
        rw [t1]
        simp only [ZmD]
        rw [g]
        simp only [ZmD]
        rw [ZmJ (by rcases hb1.code with h | h | h <;> simp [h] at c ⊢)]
    obtain ⟨r,q1,q2⟩:=key
    refine Eq.trans ?_ q2
    exact congrArg (fun o=>Option.bind o (fun (rl2:(Int × Int × Bool × (List D.Prf)) ⊕ ((List Int) × D.Prf × Bool × D.l03Work))=>match rl2 with | .inl s2r=>some (([]:List Int),D.Prf.mk,false,(D.l03Work.mk f s2r.1 s2r.2.1 s2r.2.2.1)) | .inr v=>some v)) q1
end
section
variable {f:D.Formula} {m:Nat} {limit:Int}
noncomputable def serP (f:D.Formula) (m:Nat) (limit:Int):Int × List Bool × Int:=
 let r:=brn m f.Clauses limit (m + 1) (List.replicate (m + 1) 0) 0
 (r.1,if r.1 = 1 then bls r.2.1 else [],r.2.2)
theorem ZiV {a:List Int} (hA:Asg m a):zer a ≤ m + 1:=by
 have:=List.count_le_length (a:=(0:Int)) (l:=a)
 have:=hA.len
 unfold zer; omega
theorem impl_search (hf:FmP f m) (h0:0 ≤ limit) (hl3:limit ≤ 3000) {n:Nat} (hn:4002000 ≤ n) (hk:YT n f = some true):ZaG n f [] limit = some (serP f m limit):=by
 have hm:=hf.small
 obtain ⟨occ,e1,ho⟩:=Zh3 hf (n:=n) (by omega)
 have e0:Yn n [] f.Vars = some true:=by
  unfold Yn
  rw [ZC (r:=.inl ()) (by simp [len]) (by omega)]; rfl
 have e2:YO limit = some true:=by unfold YO; simp; omega
 unfold ZaG
 rw [hk]
 simp only [ZmD,ZmT,ZmF,ZmQ,Znt,e0,e2,e1]
 obtain ⟨a',b,g1,g2⟩:=start_eq hf ho (n:=n) (by omega)
 unfold X0 serP brn
 rw [g1]
 simp only [ZmD]
 rcases g2 with ⟨rfl,g3,g4⟩ | ⟨rfl,g4⟩
 ·have hok := Zck g4
  rw [ZmI (by decide),g4]
  have:=Zmx hf ho hl3 (m + 1) a'.val a'.queue 0 [] n hok.asg hok.cl (ZiV hok.asg) (by omega) (by omega) h0
  rw [show a' = ⟨a'.val,a'.queue⟩ from rfl,this]; rfl
 ·rw [ZmJ (by decide),g4]; rfl
theorem ZkB {a:List Int} (hA:Asg m a) (hm:m ≤ 400) {n:Nat} (hn:2000 ≤ n):iterN (fun (s1:Int × (List Bool))=>
     if (decide (s1.1 < (len (a.drop 1)))) then
      (get? (a.drop 1) s1.1).bind fun x7=>
      (app? s1.2 ([(decide (x7 > 0))]:List Bool)).bind fun x8=>
      some (.inl ((w64 (s1.1 + 1)),x8))
     else
      some (.inr (s1.2))) n (0,([]:List Bool)) = some (bls a):=by
  have hlen:=hA.len
  have hd:(a.drop 1).length = m:=by rw [Znh]; omega
  have key:∀ (d i k:Nat),i + d = m → d < k → iterN (fun (s1:Int × (List Bool))=>
     if (decide (s1.1 < (len (a.drop 1)))) then
      (get? (a.drop 1) s1.1).bind fun x7=>
      (app? s1.2 ([(decide (x7 > 0))]:List Bool)).bind fun x8=>
      some (.inl ((w64 (s1.1 + 1)),x8))
     else
      some (.inr (s1.2))) k ((i:Int),(bls a).take i) = some (bls a):=by
    intro d
    induction d with
    | zero =>
      intro i k hi hk
      have hd':decide ((i:Int) < len (a.drop 1)) = false:=by rw [Za,hd]; exact decide_eq_false (by omega)
      refine ZC ?_ (by omega)
      simp only [hd',ZmF,ZmQ]
      rw [Zn8 (by rw [bls_len hA]; omega)]
    | succ d ih =>
      intro i k hi hk
      obtain ⟨k,rfl⟩ : ∃ j,k = j + 1:=⟨k - 1,by omega⟩
      have hd':decide ((i:Int) < len (a.drop 1)) = true:=by rw [Za,hd]; exact decide_eq_true (by omega)
      have e1:w64 ((i:Int) + 1) = ((i + 1:Nat):Int):=by rw [Zb (by omega) (by omega)]; rfl
      have hil:i < (bls a).length:=by rw [bls_len hA]; omega
      have hig:i < (a.drop 1).length:=by omega
      rw [Zat (s':=(((i + 1:Nat):Int),(bls a).take (i + 1))) (by
        simp only [hd',Znl,e1]
        rw [get?_nat,ZmE hig]
        simp only [ZmD]
        rw [Zix (by rw [ZmP]; omega)]
        simp only [ZmD]
        rw [Zni hil]
        simp only [bls,List.getElem_map])]
      exact ih (i + 1) k (by omega) (by omega)
  exact key m 0 n (by omega) (by omega)
theorem ZjO (hm:m ≤ 400) {n:Nat} (hn:1 ≤ n):ZaH n (m:Int) [] = some (List.replicate (m + 1) 0,true):=by
 unfold ZaH
 rw [Zb (by omega) (by omega),show ((m:Int) + 1) = ((m + 1:Nat):Int) from rfl,Zga (by omega)]
 simp only [ZmD]
 rw [ZC (r:=.inl (List.replicate (m + 1) 0)) (by simp [len]) (by omega)]; rfl
theorem Zhf {cs:List (List Int)}:∀ (d:Nat) (a:List Int) (s:Int),Asg m a → (srch m cs limit d a s).1 = 1 → Asg m (srch m cs limit d a s).2.1
 | 0,_,_,_,h=>by simp [srch] at h
 | d + 1,a,s,hA,h=>by
  have hb:∀ (v:List Int) (s':Int),(brn m cs limit d v s').1 = 1 → Asg m (brn m cs limit d v s').2.1:=fun v s' h'=>by
   unfold brn at h' ⊢
   cases hc:clo m cs v with
   | none=>rw [hc] at h'; simp at h'
   | some b=>rw [hc] at h'; exact Zhf d b s' (Zck hc).asg h'
  rw [Zc3] at h ⊢
  by_cases c1:lfr a = 0
  ·rw [ZmJ c1]; exact hA
  rw [ZmI c1] at h ⊢
  by_cases c2:s = limit
  ·rw [ZmJ c2] at h; simp at h
  rw [ZmI c2] at h ⊢
  by_cases c3:(brn m cs limit d (stA a (-(lfr a:Int))) (s + 1)).1 = 2
  ·rw [ZmJ c3] at h ⊢; exact hb _ _ h
  ·rw [ZmI c3] at h ⊢; exact hb _ _ h
theorem brn_asg {cs:List (List Int)} (d:Nat) (v:List Int) (s:Int) (h:(brn m cs limit d v s).1 = 1):Asg m (brn m cs limit d v s).2.1:=by
 unfold brn at h ⊢
 cases hc:clo m cs v with
 | none=>rw [hc] at h; simp at h
 | some b=>rw [hc] at h; exact Zhf d b s (Zck hc).asg h
theorem spec_search (hf:FmP f m) (h0:0 ≤ limit) (hl3:limit ≤ 3000) {n:Nat} (hn:4002000 ≤ n) (hk:YY n f = some true):ZaF n f [] limit = some (serP f m limit):=by
 have hm:=hf.small
 have e0:YN n [] f.Vars = some true:=by
  unfold YN
  rw [ZC (r:=.inl ()) (by simp [len]) (by omega)]; rfl
 have e2:Zg limit 0 3000 = some true:=by unfold Zg; simp; omega
 unfold ZaF
 rw [hk]
 simp only [ZmD,ZmT,ZmF,ZmQ,Znt,e0,e2]
 rw [hf.vars,ZjO hm (by omega)]
 simp only [ZmD,ZmT,ZmF,ZmQ]
 have hz:=ZfO m
 rw [Zmk hf hl3 (m + 1) _ 0 n hz (ZiV hz) (by omega) (by omega) h0]
 simp only [ZmD]
 unfold serP
 have hb:=Zgd m f.Clauses limit (m + 1) (List.replicate (m + 1) 0) 0 h0
 have hasg:(brn m f.Clauses limit (m + 1) (List.replicate (m + 1) 0) 0).1 = 1 → Asg m (brn m f.Clauses limit (m + 1) (List.replicate (m + 1) 0) 0).2.1:=fun h=>brn_asg _ _ _ h
 generalize brn m f.Clauses limit (m + 1) (List.replicate (m + 1) 0) 0 = R at *
 dsimp only
 by_cases c:R.1 = 1
 ·have hA := hasg c
  have hlen:=hA.len
  rw [ZmI (by rw [c]; decide),ZmJ c,c]
  have e4:cut? R.2.1 1 (len R.2.1) = some (R.2.1.drop 1):=by
   unfold cut?
   rw [Za,ZmJ (by omega),Znz,Zn0]; rfl
  rw [e4]
  simp only [ZmD]
  rw [ZkB hA hm (by omega)]; rfl
 ·rw [ZmJ (by simpa using c), ZmI c]
  rcases hb.code with h | h | h
  ·exact absurd h c
  ·rw [ZmI (by rw [h]; decide),h]
  ·rw [ZmJ (by rw [h]; decide),h]
end
end Go.Proofs.YtgpcokpcbjloiaaGreat.Sv
end
section
namespace Go.Proofs.YtgpcokpcbjloiaaGreat
open Go.GL
open Cc (BS LS CircP Grow GoodL Good litN lines negs seqP ifP opP net RelB FOk FU)
set_option linter.unusedSimpArgs false
set_option maxRecDepth 100000
structure CircT (t:D.Term) (L:List D.Value):Prop where
 vars:Yq fuel t = some L
 ivars:Xv fuel t = some (L.map zv)
 circ:CircP (circT t).1
 len:(circT t).2.1.length = t.W.toNat
 lits:∀ x ∈ (circT t).2.1,litN (lines (circT t).1) x = true
 sum:(circT t).1.Inputs = (wsum L:Int)
 wid:∀ v ∈ L,1 ≤ v.W ∧ v.W ≤ 16
 num:L.length ≤ 1000
theorem ZeY {t:D.Term} (h:termB t = true) (hs:msz t ≤ 1048576) (h3:(circT t).2.2 = true):∃ L,CircT t L:=by
 obtain ⟨L,e,hL,hn,hc,hw,hnm,hlen,hb0⟩:=ZcT h hs
 unfold circT at h3
 rw [ZmJ h] at h3
 simp only [e,Znv] at h3
 have hE:circT t = (if bitsV L 0 > 30 ∨ (nP L t (⟨bitsV L 0,[]⟩,false)).2.2 = true then (c0,[],false) else ((nP L t (⟨bitsV L 0,[]⟩,false)).2.1,(nP L t (⟨bitsV L 0,[]⟩,false)).1,true)):=by
  unfold circT
  rw [ZmJ h]
  simp only [e,Znv]
 by_cases hb:bitsV L 0 > 30 ∨ (nP L t (⟨bitsV L 0,[]⟩,false)).2.2 = true
 ·rw [ZmJ hb] at h3; cases h3
 ·rw [ZmI hb] at hE
  have hC:=Zdq hb0 (by omega)
  have hv:VF L (⟨bitsV L 0,[]⟩ : D.Circuit):=⟨fun v hv=>(hw v hv).1,rfl⟩
  have g:=Zc0 hL.nm _ t (⟨bitsV L 0,[]⟩,false) (ZmY _) hn hL.all hC hv
  refine ⟨L,e,by rw [Zf7 h hs,← hL.eq],by rw [hE]; exact g.circ,by rw [hE]; exact g.len,by rw [hE]; exact g.lits,?_,hw,hlen⟩
  rw [hE]
  have:=g.grow.inputs
  have:=ZfN L 0 hw
  simp only at *
  omega
def formT (t:D.Term):D.Formula:=⟨lines (circT t).1,Cc.accF (circT t).1 (circT t).1.Gates.length ++ [[(circT t).2.1.getD 0 0]]⟩
noncomputable def solP (t:D.Term) (limit:Int):Int × List D.Value:=
 if termB t = true ∧ t.W = 1 ∧ 0 ≤ limit ∧ limit ≤ 3000 then
  if (circT t).2.2 = true then
   if (Sv.serP (formT t) (lines (circT t).1).toNat limit).1 = 1 then (1,valsP (Sv.serP (formT t) (lines (circT t).1).toNat limit).2.1 1 ((Yq fuel t).getD [])) else ((Sv.serP (formT t) (lines (circT t).1).toNat limit).1,[])
  else (3,[])
 else (0,[])
theorem Zgf (x:Int):Cc.iab x = (x.natAbs:Int):=by unfold Cc.iab; split <;> omega
section
variable {t:D.Term} {L:List D.Value} (hT:CircT t L) (hw1:t.W = 1)
include hT hw1
theorem lit0:(circT t).2.1[0]? = some ((circT t).2.1.getD 0 0) ∧ litN (lines (circT t).1) ((circT t).2.1.getD 0 0) = true:=by
 have hl:=hT.len
 rw [hw1] at hl
 have h0:0 < (circT t).2.1.length:=by rw [hl]; decide
 have hg:(circT t).2.1.getD 0 0 = (circT t).2.1[0]:=by rw [ZmL,ZmE h0]; rfl
 exact ⟨by rw [ZmE h0,hg],by rw [hg]; exact hT.lits _ (Zns h0)⟩
theorem Zg3:Cc.formP (circT t).1 ((circT t).2.1.getD 0 0) = (formT t,true):=by
 unfold Cc.formP formT
 rw [Cc.circP_iff.2 hT.circ,(lit0 hT hw1).2]; rfl
theorem ZgL:Sv.FmP (formT t) (lines (circT t).1).toNat ∧ YY fuel (formT t) = some true ∧ YT fuel (formT t) = some true:=by
 have h0:=hT.circ.lines0
 have h1:=hT.circ.lines1
 have hg:=hT.circ.len
 have hi:=Cc.form_inc hT.circ (lit0 hT hw1).2
 have hn:(formT t).Clauses.length ≤ 1600:=by unfold formT; simp only [ZmO,Cc.accF_len,Znc,ZnI]; omega
 have hv:(formT t).Vars = lines (circT t).1:=rfl
 refine ⟨⟨by rw [hv]; omega,by omega,hn,fun c hc=>?_⟩,Cc.spec_fok (by rw [hv]; omega) (by rw [hv]; omega) hn fun c hc=>⟨(hi c hc).1,by have:=(hi c hc).2; omega⟩,Cc.impl_fok (by rw [hv]; omega) (by rw [hv]; omega) hn fun c hc=>⟨(hi c hc).1,by have:=(hi c hc).2; omega⟩⟩
 obtain ⟨⟨a1,a2⟩,a3⟩:=hi c hc
 refine ⟨⟨fun x hx=>?_,a2.imp fun h=>?_⟩,by omega⟩
 ·have := Cc.litN_iff.1 (a1 x hx)
  rw [Zgf] at this
  exact ⟨by omega,by omega⟩
 ·rw [Zgf, Zgf] at h
  intro e; rw [e] at h; omega
omit hw1 in
theorem ZeP {limit:Int} (h:(Sv.serP (formT t) (lines (circT t).1).toNat limit).1 = 1):(Sv.serP (formT t) (lines (circT t).1).toNat limit).2.1.length ≤ 1000 ∧ 1 + wsum L ≤ (Sv.serP (formT t) (lines (circT t).1).toNat limit).2.1.length:=by
 unfold Sv.serP at h ⊢
 dsimp only at h ⊢
 rw [ZmJ h,Sv.bls_len (Sv.brn_asg _ _ _ h)]
 have h1:=hT.circ.lines1
 have hs:=hT.sum
 unfold Cc.lines at h1 ⊢
 omega
end
theorem ZjU (limit:Int):Zg limit 0 3000 = some (decide (0 ≤ limit ∧ limit ≤ 3000)):=by
 unfold Zg; congr 1; rw [ZnP]; simp
theorem Ziu (limit:Int):YO limit = some (decide (0 ≤ limit ∧ limit ≤ 3000)):=by
 unfold YO; congr 1; rw [ZnP]; simp
theorem ZcR {t:D.Term} {limit:Int} (h:¬ (termB t = true ∧ t.W = 1 ∧ 0 ≤ limit ∧ limit ≤ 3000)):solP t limit = (0,[]):=by unfold solP; rw [ZmI h]
theorem Zlb {t:D.Term} {limit:Int} (h:termB t = true ∧ t.W = 1 ∧ 0 ≤ limit ∧ limit ≤ 3000) (h3:¬ (circT t).2.2 = true):solP t limit = (3,[]):=by unfold solP; rw [ZmJ h,ZmI h3]
theorem ZkW {t:D.Term} {limit:Int} (h:termB t = true ∧ t.W = 1 ∧ 0 ≤ limit ∧ limit ≤ 3000) (h3:(circT t).2.2 = true):solP t limit = if (Sv.serP (formT t) (lines (circT t).1).toNat limit).1 = 1 then (1,valsP (Sv.serP (formT t) (lines (circT t).1).toNat limit).2.1 1 ((Yq fuel t).getD [])) else ((Sv.serP (formT t) (lines (circT t).1).toNat limit).1,[]):=by unfold solP; rw [ZmJ h,ZmJ h3]
theorem Zh9 {t:D.Term} {limit:Int} (hs:msz t ≤ 1048576):Xp fuel t limit = some (solP t limit):=by
 unfold Xp
 rw [Za2 hs]
 simp only [ZmD]
 by_cases h:termB t = true
 rotate_left
 ·rw [ZcR (fun q => h q.1)]
  have h':termB t = false:=by simpa using h
  rw [h']; rfl
 by_cases hw:t.W = 1
 rotate_left
 ·rw [ZcR (fun q=>hw q.2.1),h,show (t.W != 1) = true by simpa using hw]; rfl
 rw [h,show (t.W != 1) = false by simpa using hw,ZjU]
 simp only [ZmT,Znt,ZmF,ZmQ,ZmD]
 by_cases hl:0 ≤ limit ∧ limit ≤ 3000
 rotate_left
 ·rw [ZcR (fun q=>hl q.2.2),decide_eq_false hl]; rfl
 rw [decide_eq_true hl]
 simp only [ZmT,ZmF,ZmQ,ZhY hs,ZmD]
 by_cases h3:(circT t).2.2 = true
 rotate_left
 ·rw [Zlb ⟨h,hw,hl⟩ h3,ZmJ (by simpa using h3)]
 rw [ZkW ⟨h,hw,hl⟩ h3,ZmI (by rw [h3]; decide)]
 obtain ⟨L,hT⟩:=ZeY h hs h3
 have hg:=hT.circ.len
 obtain ⟨f1,f2,f3⟩:=ZgL hT hw
 rw [show get? (circT t).2.1 0 = _ from (get?_nat (i:=0)).trans (lit0 hT hw).1]
 simp only [ZmD]
 rw [Cc.spec_FormulaOf_eq hT.circ.fit (by omega),Zg3 hT hw]
 simp only [ZmD]
 rw [Sv.spec_search f1 hl.1 hl.2 (by unfold fuel; omega) f2]
 simp only [ZmD]
 by_cases h4:(Sv.serP (formT t) (lines (circT t).1).toNat limit).1 = 1
 ·obtain ⟨m1, m2⟩ := ZeP hT h4
  rw [ZmI (by simpa using h4),ZmJ h4,hT.vars]
  simp only [ZmD,Znv]
  rw [ZfW m1 hT.num hT.wid (by unfold fuel; omega) m2,h4]; rfl
 ·rw [ZmJ (by simpa using h4),ZmI h4]
theorem Zh5 {t:D.Term} {limit:Int} (hs:msz t ≤ 1048576):Xo fuel t limit = some (solP t limit):=by
 unfold Xo
 rw [Zc1 hs]
 simp only [ZmD]
 by_cases h:termB t = true
 rotate_left
 ·rw [ZcR (fun q => h q.1)]
  have h':termB t = false:=by simpa using h
  rw [h']; rfl
 by_cases hw:t.W = 1
 rotate_left
 ·rw [ZcR (fun q=>hw q.2.1),h,show (t.W != 1) = true by simpa using hw]; rfl
 rw [h,show (t.W != 1) = false by simpa using hw,Ziu]
 simp only [ZmT,Znt,ZmF,ZmQ,ZmD]
 by_cases hl:0 ≤ limit ∧ limit ≤ 3000
 rotate_left
 ·rw [ZcR (fun q=>hl q.2.2),decide_eq_false hl]; rfl
 rw [decide_eq_true hl]
 simp only [ZmT,ZmF,ZmQ,Zii hs,ZmD]
 by_cases h3:(circT t).2.2 = true
 rotate_left
 ·rw [Zlb ⟨h,hw,hl⟩ h3,ZmJ (by simpa using h3)]
 rw [ZkW ⟨h,hw,hl⟩ h3,ZmI (by rw [h3]; decide)]
 obtain ⟨L,hT⟩:=ZeY h hs h3
 have hg:=hT.circ.len
 obtain ⟨f1,f2,f3⟩:=ZgL hT hw
 rw [show get? (circT t).2.1 0 = _ from (get?_nat (i:=0)).trans (lit0 hT hw).1]
 simp only [ZmD]
 rw [Cc.impl_FormulaOf_eq hT.circ.fit (by omega),Zg3 hT hw]
 simp only [ZmD,ZmT,ZmF,ZmQ]
 rw [Sv.impl_search f1 hl.1 hl.2 (by unfold fuel; omega) f3]
 simp only [ZmD]
 by_cases h4:(Sv.serP (formT t) (lines (circT t).1).toNat limit).1 = 1
 ·obtain ⟨m1, m2⟩ := ZeP hT h4
  rw [ZmI (by simpa using h4),ZmJ h4,hT.vars]
  simp only [Znv]
  rw [Zgm m1 hT.num hT.wid (by unfold fuel; omega) m2 hT.ivars]; rfl
 ·rw [ZmJ (by simpa using h4),ZmI h4]
theorem Zle {t:D.Term} {limit:Int} (hs:msz t ≤ 1048576):(solP t limit).2.length ≤ 100000:=by
 unfold solP
 split
 ·rename_i h
  split
  ·rename_i h3
   obtain ⟨L,hT⟩:=ZeY h.1 hs h3
   have:=hT.num
   split
   ·rw [hT.vars]
    simp only [Znv,Zf3]; omega
   ·simp
  ·simp
 ·simp
end Go.Proofs.YtgpcokpcbjloiaaGreat
end
