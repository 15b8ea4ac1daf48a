/- Texts of this claim put into one: library or plain laws, without the program under test. -/
import Derived.Test.YthlolmkdppfioaaGreatPLib2
import Derived.Test.YthlolmkdppfioaaGreatPLib1
set_option linter.unusedSimpArgs false
set_option linter.unusedVariables false
section
namespace Go.Proofs.YthlolmkdppfioaaGreat.Sv
open Go.GL
set_option linter.unusedSimpArgs false
set_option maxRecDepth 100000
theorem Zeo:∀ (l l':List Int),l.length = l'.length → (∀ i:Nat,l'[i]? = some (0:Int) → l[i]? = some (0:Int)) → l'.count 0 ≤ l.count 0
 | [],[],_,_=>ZnK _
 | x :: l,y :: l',h,hi=>by
  have ih:=Zeo l l' (by simpa using h) fun i e=>by simpa using hi (i + 1) (by simpa using e)
  rw [ZqU,ZqU]
  by_cases hy:y = 0
  ·have : x = 0 := by simpa [hy] using hi 0
   rw [hy,this]; omega
  ·have : (y == 0) = false := by simpa using hy
   rw [this]
   simp only [Zn6,ZnI]
   omega
section
variable {f:D.Formula} {m:Nat} {occ:List (List Int)} {limit:Int}
theorem ZgY {cs:List (List Int)} {v b:List Int} (hv:Asg m v) (h:Okc m cs (Sv m v) b):zer b ≤ zer v:=by
 refine Zeo v b (hv.len.trans h.asg.len.symm) fun i hi=>?_
 have hlt:i < b.length:=(Zn9.1 hi).1
 have hb0:b.getD i 0 = 0:=by
  have:=Za0 hlt
  rw [hi] at this
  exact (Option.some.inj this).symm
 rw [Za0 (by rw [hv.len,← h.asg.len]; exact hlt)]
 congr 1
 by_cases h0:i = 0
 ·subst h0; exact hv.nul
 have hlen:=h.asg.len
 have e:∀ c:List Int,lv c (i:Int) = c.getD i 0:=fun c=>by unfold lv; rw [ZnA (by omega)]; simp
 have en:∀ c:List Int,lv c (-(i:Int)) = -c.getD i 0:=fun c=>by rw [ZaF (by omega),e]
 rcases hv.val i with h1 | h1 | h1
 ·have := h.ext (-(i : Int)) ⟨⟨by omega, by omega⟩, by rw [en, h1]; rfl⟩
  rw [en,hb0] at this; omega
 ·exact h1
 ·have := h.ext (i : Int) ⟨⟨by omega, by omega⟩, by rw [e, h1]⟩
  rw [e,hb0] at this; omega
noncomputable def lfr (a:List Int):Nat:=open Classical in if h:∃ v,LF a v then h.choose else 0
theorem Zlm {a:List Int} {v:Nat} (h:LF a v):lfr a = v:=by
 have hx:∃ v,LF a v:=⟨v,h⟩
 unfold lfr
 rw [dif_pos hx]
 exact hx.choose_spec.uniq h
noncomputable def srch (m:Nat) (cs:List (List Int)) (limit:Int):Nat → List Int → Int → Int × List Int × Int
 | 0,_,s=>(2,[],s)
 | d + 1,a,s=>if lfr a = 0 then (1,a,s) else if s = limit then (3,[],s) else
  let r:Int × List Int × Int:=match clo m cs (stA a (-(lfr a:Int))) with | none=>(2,[],s + 1) | some b=>srch m cs limit d b (s + 1)
  if r.1 = 2 then (match clo m cs (stA a (lfr a:Int)) with | none=>(2,[],r.2.2) | some b=>srch m cs limit d b r.2.2) else r
noncomputable def brn (m:Nat) (cs:List (List Int)) (limit:Int) (d:Nat) (v:List Int) (s:Int):Int × List Int × Int:=match clo m cs v with | none=>(2,[],s) | some b=>srch m cs limit d b s
theorem Zcn (m:Nat) (cs:List (List Int)) (limit:Int) (d:Nat) (a:List Int) (s:Int):srch m cs limit (d + 1) a s = if lfr a = 0 then (1,a,s) else if s = limit then (3,[],s) else
  if (brn m cs limit d (stA a (-(lfr a:Int))) (s + 1)).1 = 2 then brn m cs limit d (stA a (lfr a:Int)) (brn m cs limit d (stA a (-(lfr a:Int))) (s + 1)).2.2 else brn m cs limit d (stA a (-(lfr a:Int))) (s + 1):=by
 rw [srch]; rfl
structure SOk (limit s:Int) (r:Int × List Int × Int):Prop where
 code:r.1 = 1 ∨ r.1 = 2 ∨ r.1 = 3
 nil:r.1 ≠ 1 → r.2.1 = []
 lo:s ≤ r.2.2
 hi:r.2.2 ≤ limit
theorem Zir (m:Nat) (cs:List (List Int)) (limit:Int):∀ (d:Nat) (a:List Int) (s:Int),s ≤ limit → SOk limit s (srch m cs limit d a s)
 | 0,a,s,h=>⟨.inr (.inl rfl),fun _=>rfl,ZoD _,h⟩
 | d + 1,a,s,h=>by
  have hb:∀ v s',s' ≤ limit → SOk limit s' (brn m cs limit d v s'):=fun v s' h'=>by
   unfold brn
   cases clo m cs v with
   | none=>exact ⟨.inr (.inl rfl),fun _=>rfl,ZoD _,h'⟩
   | some b=>exact Zir m cs limit d b s' h'
  rw [Zcn]
  by_cases c1:lfr a = 0
  ·rw [ZnC c1]; exact ⟨.inl rfl,fun h=>absurd rfl h,ZoD _,h⟩
  rw [ZnA c1]
  by_cases c2:s = limit
  ·rw [ZnC c2]; exact ⟨.inr (.inr rfl),fun _=>rfl,ZoD _,h⟩
  rw [ZnA c2]
  have h1:=hb (stA a (-(lfr a:Int))) (s + 1) (by omega)
  by_cases c3:(brn m cs limit d (stA a (-(lfr a:Int))) (s + 1)).1 = 2
  ·rw [ZnC c3]
   have h2:=hb (stA a (lfr a:Int)) _ h1.hi
   exact ⟨h2.code,h2.nil,by have:=h1.lo; have:=h2.lo; omega,h2.hi⟩
  ·rw [ZnA c3]
   exact ⟨h1.code,h1.nil,by have:=h1.lo; omega,h1.hi⟩
theorem brn_ok (m:Nat) (cs:List (List Int)) (limit:Int) (d:Nat) (v:List Int) (s:Int) (h:s ≤ limit):SOk limit s (brn m cs limit d v s):=by
 unfold brn
 cases clo m cs v with
 | none=>exact ⟨.inr (.inl rfl),fun _=>rfl,ZoD _,h⟩
 | some b=>exact Zir m cs limit d b s h
def bls (a:List Int):List Bool:=(a.drop 1).map fun x=>decide (x > 0)
theorem bls_len {a:List Int} (h:Asg m a):(bls a).length = m:=by unfold bls; rw [Zog,Zoe,h.len]; rfl
theorem Zh8 {a:List Int} (hA:Asg m a) (hm:m ≤ 400) {n:Nat} (hn:2000 ≤ n):iterN (fun (s1:Int × (List Bool))=>
   if (decide (s1.1 < (len (List.replicate m false)))) then
    (get? a (w64 (s1.1 + 1))).bind fun x3=>
    (set? s1.2 s1.1 (decide (x3 > 0))).bind fun x4=>
    some (.inl ((w64 (s1.1 + 1)),x4))
   else
    some (.inr (s1.2))) n (0,List.replicate m false) = some (bls a):=by
  have hlen:=hA.len
  have key:∀ (d i k:Nat),i + d = m → d < k → iterN (fun (s1:Int × (List Bool))=>
   if (decide (s1.1 < (len (List.replicate m false)))) then
    (get? a (w64 (s1.1 + 1))).bind fun x3=>
    (set? s1.2 s1.1 (decide (x3 > 0))).bind fun x4=>
    some (.inl ((w64 (s1.1 + 1)),x4))
   else
    some (.inr (s1.2))) k ((i:Int),(bls a).take i ++ List.replicate d false) = some (bls a):=by
    intro d
    induction d with
    | zero =>
      intro i k hi hk
      have hd:decide ((i:Int) < len (List.replicate m false)) = false:=by rw [Za,Zos]; exact decide_eq_false (by omega)
      refine Y6 ?_ (by omega)
      simp only [hd,Zn6,ZnI]
      rw [List.replicate_zero,Zoz,Zov (by rw [bls_len hA]; omega)]
    | succ d ih =>
      intro i k hi hk
      obtain ⟨k,rfl⟩ : ∃ j,k = j + 1:=⟨k - 1,by omega⟩
      have hd:decide ((i:Int) < len (List.replicate m false)) = true:=by rw [Za,Zos]; exact decide_eq_true (by omega)
      have e1:w64 ((i:Int) + 1) = ((i + 1:Nat):Int):=by rw [Ze (by omega) (by omega)]; rfl
      have hil:i < (bls a).length:=by rw [bls_len hA]; omega
      have e2:(bls a)[i] = decide (a.getD (i + 1) 0 > 0):=by
        have e3:a.getD (i + 1) 0 = a[1 + i]'(by omega):=by
          rw [Zn8,show i + 1 = 1 + i from Nat.add_comm _ _,Zn5 (by omega)]; rfl
        simp only [bls,ZpR,ZqG,e3]
      have hlt:((bls a).take i).length = i:=by rw [ZnF]; omega
      rw [Zcv (s':=(((i + 1:Nat):Int),(bls a).take (i + 1) ++ List.replicate d false)) (by
        simp only [hd,ZnV,e1]
        rw [get?_nat,Za0 (by omega)]
        simp only [Zn4]
        unfold set?
        rw [ZnC ⟨by omega,by rw [Zoo,ZnD,hlt,Zos]; omega⟩,Zoo]
        simp only [Zn4]
        congr 3
        rw [ZoL _ _ (by omega),hlt,ZoR,Zp3,Zpp,ZnG hil,e2,Zoh]; rfl)]
      exact ih (i + 1) k (by omega) (by omega)
  exact key m 0 n (by omega) (by omega)
theorem ZgP {a:List Int} (hA:Asg m a) {v:Nat} (h:LF a v) (h0:v ≠ 0):isL m (v:Int) ∧ isL m (-(v:Int)) ∧ lv a (v:Int) = 0 ∧ lv a (-(v:Int)) = 0:=by
 rcases h with ⟨h1,_⟩ | ⟨h1,h2,h3,_⟩
 ·exact absurd h1 h0
 ·have := hA.len
  have e:lv a (v:Int) = 0:=by unfold lv; rw [ZnA (by omega)]; simpa using h3
  exact ⟨⟨by omega,by omega⟩,⟨by omega,by omega⟩,e,by rw [ZaF (by omega),e]; rfl⟩
theorem Zm6 (hf:FmP f m) (ho:OccP f m occ) (hl3:limit ≤ 3000):∀ (d:Nat) (a q:List Int) (s:Int) (mo:List Bool) (n:Nat),Asg m a → (∀ c ∈ f.Clauses,good a c) → zer a ≤ d → 4000000 + d ≤ n → 0 ≤ s → s ≤ limit →
    ZH n ⟨⟨f,occ⟩,limit,s,mo⟩ ⟨a,q⟩ = some ((srch m f.Clauses limit d a s).1,⟨⟨f,occ⟩,limit,(srch m f.Clauses limit d a s).2.2,if (srch m f.Clauses limit d a s).1 = 1 then bls (srch m f.Clauses limit d a s).2.1 else mo⟩):=by
  intro d
  induction d with
  | zero =>
    intro a q s mo n hA hg hz
    have:0 < zer a:=Zqm.2 (by
      have h1:=hA.nul
      have h2:=Za0 (a:=a) (i:=0) (by have:=hA.len; omega)
      rw [h1] at h2
      exact ZnN h2)
    omega
  | succ d ih =>
    intro a q s mo n hA hg hz hn h0 hs
    obtain ⟨n,rfl⟩ : ∃ k,n = k + 1:=⟨n - 1,by omega⟩
    have hm:=hf.small
    have hlen:=hA.len
    obtain ⟨v,hv,e1⟩:=Ziv (a:=a) (q:=q) (n:=n) (by omega) (by omega)
    rw [ZH,e1,Zcn,Zlm hv]
    simp only [Zn4]
    by_cases c1:v = 0
    · rw [ZnC (by simpa using c1), ZnC c1]
      simp only [ZnV]
      rw [hf.vars,ZhM (by omega)]
      simp only [Zn4]
      rw [Zh8 hA hm (by omega)]; rfl
    · rw [ZnA (by simpa using c1), ZnA c1]
      by_cases c2:s = limit
      · rw [ZnC (by simpa using c2),ZnC c2]; rfl
      · rw [ZnA (by simpa using c2), ZnA c2]
        obtain ⟨k1,k2,k3,k4⟩:=ZgP hA hv c1
        have e3:w64 (0 - (v:Int)) = -(v:Int):=by have:=k1.2; rw [Ze (by omega) (by omega)]; omega
        have e4:w64 (s + 1) = s + 1:=Ze (by omega) (by omega)
        have one:∀ (l:Int),isL m l → lv a l = 0 → ∀ (s':Int) (mo':List Bool),0 ≤ s' → s' ≤ limit →
            ∃ a' b, Zr n ⟨f, occ⟩ ⟨a, q⟩ l = some (a', b) ∧ ((b = false ∧ brn m f.Clauses limit d (stA a l) s' = (2, [], s')) ∨
              (b = true ∧ ZH n ⟨⟨f,occ⟩,limit,s',mo'⟩ a' = some ((brn m f.Clauses limit d (stA a l) s').1,⟨⟨f,occ⟩,limit,(brn m f.Clauses limit d (stA a l) s').2.2,if (brn m f.Clauses limit d (stA a l) s').1 = 1 then bls (brn m f.Clauses limit d (stA a l) s').2.1 else mo'⟩))):=fun l hl hl0 s' mo' hs0 hs1=>by
          obtain ⟨a',b,g1,g2⟩:=Zj2 hf ho (n:=n) (by omega) (q:=q) hA hg hl hl0
          refine ⟨a',b,g1,?_⟩
          rcases g2 with ⟨rfl,g3,g4⟩ | ⟨rfl,g3⟩
          · have hok := ZaG g4
            have hz1:=Zdd hA hl hl0
            have hz2:=ZgY (ZdW hA hl) hok
            refine .inr ⟨rfl,?_⟩
            have:=ih a'.val a'.queue s' mo' n hok.asg hok.cl (by omega) (by omega) hs0 hs1
            unfold brn
            rw [g4]
            exact this
          · exact .inl ⟨rfl,by unfold brn; rw [g3]⟩
        generalize hQ:(if (brn m f.Clauses limit d (stA a (-(v:Int))) (s + 1)).1 = 2 then brn m f.Clauses limit d (stA a (v:Int)) (brn m f.Clauses limit d (stA a (-(v:Int))) (s + 1)).2.2 else brn m f.Clauses limit d (stA a (-(v:Int))) (s + 1)) = Q
        have hb1:=brn_ok m f.Clauses limit d (stA a (-(v:Int))) (s + 1) (by omega)
        have key:∃ r:(Int × Int × (List Bool)) ⊕ (Int × D.searcher),iterN (fun (s2:Int × Int × Int × (List Bool))=>
    if (decide (s2.1 < 2)) then
     (get? ([(w64 (0 - (v:Int))),(v:Int)]:List Int) s2.1).bind fun x5=>
     (Zr n ⟨f,occ⟩ ⟨a,q⟩ x5).bind fun x6=>
     if (!x6.2) then
      some (.inl ((w64 (s2.1 + 1)),s2.2.1,s2.2.2.1,s2.2.2.2))
     else
      (ZH n (D.searcher.mk ⟨f,occ⟩ s2.2.1 s2.2.2.1 s2.2.2.2) x6.1).bind fun x7=>
      if (x7.1 != 2) then
       some (.inr (.inr (x7.1,(D.searcher.mk ⟨f,occ⟩ x7.2.limit x7.2.splits x7.2.model))))
      else
       some (.inl ((w64 (s2.1 + 1)),x7.2.limit,x7.2.splits,x7.2.model))
    else
     some (.inr (.inl (s2.2.1, s2.2.2.1, s2.2.2.2)))) n (0, limit, w64 (s + 1), mo) = some r ∧
          (match r with | .inl s2r=>some (2,(D.searcher.mk ⟨f,occ⟩ s2r.1 s2r.2.1 s2r.2.2)) | .inr v=>some v) = some (Q.1,(⟨⟨f,occ⟩,limit,Q.2.2,if Q.1 = 1 then bls Q.2.1 else mo⟩ : D.searcher)):=by
          rw [e3,e4]
          obtain ⟨k,rfl⟩ : ∃ j,n = j + 3:=⟨n - 3,by omega⟩
          generalize hR1:brn m f.Clauses limit d (stA a (-(v:Int))) (s + 1) = R1 at *
          have second:∀ s':Int,0 ≤ s' → s' ≤ limit → ∃ r:(Int × Int × (List Bool)) ⊕ (Int × D.searcher),iterN (fun (s2:Int × Int × Int × (List Bool))=>
    if (decide (s2.1 < 2)) then
     (get? ([-(v:Int),(v:Int)]:List Int) s2.1).bind fun x5=>
     (Zr (k + 3) ⟨f,occ⟩ ⟨a,q⟩ x5).bind fun x6=>
     if (!x6.2) then
      some (.inl ((w64 (s2.1 + 1)),s2.2.1,s2.2.2.1,s2.2.2.2))
     else
      (ZH (k + 3) (D.searcher.mk ⟨f,occ⟩ s2.2.1 s2.2.2.1 s2.2.2.2) x6.1).bind fun x7=>
      if (x7.1 != 2) then
       some (.inr (.inr (x7.1,(D.searcher.mk ⟨f,occ⟩ x7.2.limit x7.2.splits x7.2.model))))
      else
       some (.inl ((w64 (s2.1 + 1)),x7.2.limit,x7.2.splits,x7.2.model))
    else
     some (.inr (.inl (s2.2.1,s2.2.2.1,s2.2.2.2)))) (k + 2) (1,limit,s',mo) = some r ∧
              (match r with | .inl s2r=>some (2,(D.searcher.mk ⟨f,occ⟩ s2r.1 s2r.2.1 s2r.2.2)) | .inr v=>some v) = some ((brn m f.Clauses limit d (stA a (v:Int)) s').1,(⟨⟨f,occ⟩,limit,(brn m f.Clauses limit d (stA a (v:Int)) s').2.2,if (brn m f.Clauses limit d (stA a (v:Int)) s').1 = 1 then bls (brn m f.Clauses limit d (stA a (v:Int)) s').2.1 else mo⟩ : D.searcher)):=fun s' hs0 hs1=>by
            obtain ⟨a',b,g1,g2⟩:=one (v:Int) k1 k3 s' mo hs0 hs1
            have hw:w64 (1 + 1) = 2:=by decide
            rcases g2 with ⟨rfl,g3⟩ | ⟨rfl,g3⟩
            · refine ⟨.inl (limit, s', mo), ?_, by rw [g3]; rfl⟩
              rw [show k + 2 = (k + 1) + 1 from rfl,Zcv (s':=(2,limit,s',mo)) (by
                show ((Zr (k + 3) ⟨f,occ⟩ ⟨a,q⟩ (v:Int)).bind _) = _
                rw [g1]
                simp only [Zn4,Zp6,ZnV,hw])]
              exact Y6 rfl (by omega)
            · generalize brn m f.Clauses limit d (stA a (v : Int)) s' = R at *
              by_cases c:R.1 = 2
              · refine ⟨.inl (limit, R.2.2, mo), ?_, by rw [c, ZnA (by decide)]⟩
                rw [show k + 2 = (k + 1) + 1 from rfl,Zcv (s':=(2,limit,R.2.2,mo)) (by
                  show ((Zr (k + 3) ⟨f,occ⟩ ⟨a,q⟩ (v:Int)).bind _) = _
                  rw [g1]
                  simp only [Zn4,ZnY,Zn6,ZnI]
                  rw [g3]
                  simp only [Zn4]
                  rw [ZnA (by rw [c]; decide),ZnA (show ¬ R.1 = 1 by omega),hw])]
                exact Y6 rfl (by omega)
              · refine ⟨.inr (R.1, ⟨⟨f, occ⟩, limit, R.2.2, if R.1 = 1 then bls R.2.1 else mo⟩), ?_, rfl⟩
                refine Y6 ?_ (by omega)
                show ((Zr (k + 3) ⟨f,occ⟩ ⟨a,q⟩ (v:Int)).bind _) = _
                rw [g1]
                simp only [Zn4,ZnY,Zn6,ZnI]
                rw [g3]
                simp only [Zn4]
                rw [ZnC (by simpa using c)]
          obtain ⟨a',b,g1,g2⟩:=one (-(v:Int)) k2 k4 (s + 1) mo (by omega) (by omega)
          rw [hR1] at g2
          have hw:w64 (0 + 1) = 1:=by decide
          rcases g2 with ⟨rfl,g3⟩ | ⟨rfl,g3⟩
          · obtain ⟨r, q1, q2⟩ := second (s + 1) (by omega) (by omega)
            refine ⟨r,?_,?_⟩
            · rw [show k + 3 = (k + 2) + 1 from rfl,Zcv (s':=(1,limit,s + 1,mo)) (by
                show ((Zr (k + 3) ⟨f,occ⟩ ⟨a,q⟩ (-(v:Int))).bind _) = _
                rw [g1]
                simp only [Zn4,Zp6,ZnV,hw])]
              exact q1
            · rw [← hQ,g3,ZnC rfl]; exact q2
          · by_cases c : R1.1 = 2
            · obtain ⟨r, q1, q2⟩ := second R1.2.2 (by have := hb1.lo; omega) hb1.hi
              refine ⟨r,?_,?_⟩
              · rw [show k + 3 = (k + 2) + 1 from rfl,Zcv (s':=(1,limit,R1.2.2,mo)) (by
                  show ((Zr (k + 3) ⟨f,occ⟩ ⟨a,q⟩ (-(v:Int))).bind _) = _
                  rw [g1]
                  simp only [Zn4,ZnY,Zn6,ZnI]
                  rw [g3]
                  simp only [Zn4]
                  rw [ZnA (by rw [c]; decide),ZnA (show ¬ R1.1 = 1 by omega),hw])]
                exact q1
              · rw [← hQ,ZnC c]; exact q2
            · refine ⟨.inr (R1.1, ⟨⟨f, occ⟩, limit, R1.2.2, if R1.1 = 1 then bls R1.2.1 else mo⟩), ?_, by rw [← hQ, ZnA c]⟩
              refine Y6 ?_ (by omega)
              show ((Zr (k + 3) ⟨f,occ⟩ ⟨a,q⟩ (-(v:Int))).bind _) = _
              rw [g1]
              simp only [Zn4,ZnY,Zn6,ZnI]
              rw [g3]
              simp only [Zn4]
              rw [ZnC (by simpa using c)]
        obtain ⟨r,q1,q2⟩:=key
        refine Eq.trans ?_ q2
        exact congrArg (fun o=>Option.bind o (fun (rl2:(Int × Int × (List Bool)) ⊕ (Int × D.searcher))=>match rl2 with | .inl s2r=>some (2,(D.searcher.mk ⟨f,occ⟩ s2r.1 s2r.2.1 s2r.2.2)) | .inr v=>some v)) q1
end
section
variable {f:D.Formula} {m:Nat} {limit:Int}
noncomputable def serP (f:D.Formula) (m:Nat) (limit:Int):Int × List Bool × Int:=
 let r:=brn m f.Clauses limit (m + 1) (List.replicate (m + 1) 0) 0
 (r.1,if r.1 = 1 then bls r.2.1 else [],r.2.2)
theorem ZiF {a:List Int} (hA:Asg m a):zer a ≤ m + 1:=by
 have:=List.count_le_length (a:=(0:Int)) (l:=a)
 have:=hA.len
 unfold zer; omega
theorem impl_search (hf:FmP f m) (h0:0 ≤ limit) (hl3:limit ≤ 3000) {n:Nat} (hn:4002000 ≤ n) (hk:YF n f = some true):Zaq n f [] limit = some (serP f m limit):=by
 have hm:=hf.small
 obtain ⟨occ,e1,ho⟩:=ZhY hf (n:=n) (by omega)
 have e0:Ya n [] f.Vars = some true:=by
  unfold Ya
  rw [Y6 (r:=.inl ()) (by simp [len]) (by omega)]; rfl
 have e2:Y9 limit = some true:=by unfold Y9; simp; omega
 unfold Zaq
 rw [hk]
 simp only [Zn4,ZnY,Zn6,ZnI,Zo4,e0,e2,e1]
 obtain ⟨a',b,g1,g2⟩:=start_eq hf ho (n:=n) (by omega)
 unfold YY serP brn
 rw [g1]
 simp only [Zn4]
 rcases g2 with ⟨rfl,g3,g4⟩ | ⟨rfl,g4⟩
 ·have hok := ZaG g4
  rw [ZnA (by decide),g4]
  have:=Zm6 hf ho hl3 (m + 1) a'.val a'.queue 0 [] n hok.asg hok.cl (ZiF hok.asg) (by omega) (by omega) h0
  rw [show a' = ⟨a'.val,a'.queue⟩ from rfl,this]; rfl
 ·rw [ZnC (by decide),g4]; rfl
theorem Zgj {cs:List (List Int)}:∀ (d:Nat) (a:List Int) (s:Int),Asg m a → (srch m cs limit d a s).1 = 1 → Asg m (srch m cs limit d a s).2.1
 | 0,_,_,_,h=>by simp [srch] at h
 | d + 1,a,s,hA,h=>by
  have hb:∀ (v:List Int) (s':Int),(brn m cs limit d v s').1 = 1 → Asg m (brn m cs limit d v s').2.1:=fun v s' h'=>by
   unfold brn at h' ⊢
   cases hc:clo m cs v with
   | none=>rw [hc] at h'; simp at h'
   | some b=>rw [hc] at h'; exact Zgj d b s' (ZaG hc).asg h'
  rw [Zcn] at h ⊢
  by_cases c1:lfr a = 0
  ·rw [ZnC c1]; exact hA
  rw [ZnA c1] at h ⊢
  by_cases c2:s = limit
  ·rw [ZnC c2] at h; simp at h
  rw [ZnA c2] at h ⊢
  by_cases c3:(brn m cs limit d (stA a (-(lfr a:Int))) (s + 1)).1 = 2
  ·rw [ZnC c3] at h ⊢; exact hb _ _ h
  ·rw [ZnA c3] at h ⊢; exact hb _ _ h
theorem brn_asg {cs:List (List Int)} (d:Nat) (v:List Int) (s:Int) (h:(brn m cs limit d v s).1 = 1):Asg m (brn m cs limit d v s).2.1:=by
 unfold brn at h ⊢
 cases hc:clo m cs v with
 | none=>rw [hc] at h; simp at h
 | some b=>rw [hc] at h; exact Zgj d b s (ZaG hc).asg h
end
end Go.Proofs.YthlolmkdppfioaaGreat.Sv
end
section
namespace Go.Proofs.YthlolmkdppfioaaGreat
open Go.GL
open Cc (BS LS CircP Grow GoodL Good litN lines negs seqP ifP opP net RelB FOk FU)
set_option linter.unusedSimpArgs false
set_option maxRecDepth 100000
structure CircT (t:D.Term) (L:List D.Value):Prop where
 vars:ZA fuel t = some L
 ivars:YU fuel t = some (L.map zv)
 circ:CircP (circT t).1
 len:(circT t).2.1.length = t.W.toNat
 lits:∀ x ∈ (circT t).2.1,litN (lines (circT t).1) x = true
 sum:(circT t).1.Inputs = (wsum L:Int)
 wid:∀ v ∈ L,1 ≤ v.W ∧ v.W ≤ 16
 num:L.length ≤ 1000
theorem ZgB {t:D.Term} (h:termB t = true) (hs:msz t ≤ 1048576) (h3:(circT t).2.2 = true):∃ L,CircT t L:=by
 obtain ⟨L,e,hL,hn,hc,hw,hnm,hlen,hb0⟩:=ZaC h hs
 unfold circT at h3
 rw [ZnC h] at h3
 simp only [e,Zol] at h3
 have hE:circT t = (if bitsV L 0 > 30 ∨ (nP L t (⟨bitsV L 0,[]⟩,false)).2.2 = true then (c0,[],false) else ((nP L t (⟨bitsV L 0,[]⟩,false)).2.1,(nP L t (⟨bitsV L 0,[]⟩,false)).1,true)):=by
  unfold circT
  rw [ZnC h]
  simp only [e,Zol]
 by_cases hb:bitsV L 0 > 30 ∨ (nP L t (⟨bitsV L 0,[]⟩,false)).2.2 = true
 ·rw [ZnC hb] at h3; cases h3
 ·rw [ZnA hb] at hE
  have hC:=ZcA hb0 (by omega)
  have hv:VF L (⟨bitsV L 0,[]⟩ : D.Circuit):=⟨fun v hv=>(hw v hv).1,rfl⟩
  have g:=Zci hL.nm _ t (⟨bitsV L 0,[]⟩,false) (ZnK _) hn hL.all hC hv
  refine ⟨L,e,by rw [Zfg h hs,← hL.eq],by rw [hE]; exact g.circ,by rw [hE]; exact g.len,by rw [hE]; exact g.lits,?_,hw,hlen⟩
  rw [hE]
  have:=g.grow.inputs
  have:=Zds L 0 hw
  simp only at *
  omega
def formT (t:D.Term):D.Formula:=⟨lines (circT t).1,Cc.accF (circT t).1 (circT t).1.Gates.length ++ [[(circT t).2.1.getD 0 0]]⟩
noncomputable def solP (t:D.Term) (limit:Int):Int × List D.Value:=
 if termB t = true ∧ t.W = 1 ∧ 0 ≤ limit ∧ limit ≤ 3000 then
  if (circT t).2.2 = true then
   if (Sv.serP (formT t) (lines (circT t).1).toNat limit).1 = 1 then (1,valsP (Sv.serP (formT t) (lines (circT t).1).toNat limit).2.1 1 ((ZA fuel t).getD [])) else ((Sv.serP (formT t) (lines (circT t).1).toNat limit).1,[])
  else (3,[])
 else (0,[])
theorem ZfP (x:Int):Cc.iab x = (x.natAbs:Int):=by unfold Cc.iab; split <;> omega
section
variable {t:D.Term} {L:List D.Value} (hT:CircT t L) (hw1:t.W = 1)
include hT hw1
theorem lit0:(circT t).2.1[0]? = some ((circT t).2.1.getD 0 0) ∧ litN (lines (circT t).1) ((circT t).2.1.getD 0 0) = true:=by
 have hl:=hT.len
 rw [hw1] at hl
 have h0:0 < (circT t).2.1.length:=by rw [hl]; decide
 have hg:(circT t).2.1.getD 0 0 = (circT t).2.1[0]:=by rw [Zn8,Zn5 h0]; rfl
 exact ⟨by rw [Zn5 h0,hg],by rw [hg]; exact hT.lits _ (Zoq h0)⟩
theorem Zkx:Cc.formP (circT t).1 ((circT t).2.1.getD 0 0) = (formT t,true):=by
 unfold Cc.formP formT
 rw [Cc.circP_iff.2 hT.circ,(lit0 hT hw1).2]; rfl
theorem ZeH:Sv.FmP (formT t) (lines (circT t).1).toNat ∧ (formT t).Clauses.length ≤ 1600:=by
 have h0:=hT.circ.lines0
 have h1:=hT.circ.lines1
 have hg:=hT.circ.len
 have hi:=Cc.form_inc hT.circ (lit0 hT hw1).2
 have hn:(formT t).Clauses.length ≤ 1600:=by unfold formT; simp only [ZnD,Cc.accF_len,ZnL,Zom]; omega
 have hv:(formT t).Vars = lines (circT t).1:=rfl
 refine ⟨⟨by rw [hv]; omega,by omega,hn,fun c hc=>?_⟩,hn⟩
 obtain ⟨⟨a1,a2⟩,a3⟩:=hi c hc
 refine ⟨⟨fun x hx=>?_,a2.imp fun h=>?_⟩,by omega⟩
 ·have := Cc.litN_iff.1 (a1 x hx)
  rw [ZfP] at this
  exact ⟨by omega,by omega⟩
 ·rw [ZfP, ZfP] at h
  intro e; rw [e] at h; omega
theorem ZkF:YF fuel (formT t) = some true:=by
 have h1:=hT.circ.lines1
 have h0:=hT.circ.lines0
 have hi:=Cc.form_inc hT.circ (lit0 hT hw1).2
 have hv:(formT t).Vars = lines (circT t).1:=rfl
 exact Cc.impl_fok (by rw [hv]; omega) (by rw [hv]; omega) (ZeH hT hw1).2 fun c hc=>⟨(hi c hc).1,by have:=(hi c hc).2; omega⟩
omit hw1 in
theorem Zhi {limit:Int} (h:(Sv.serP (formT t) (lines (circT t).1).toNat limit).1 = 1):(Sv.serP (formT t) (lines (circT t).1).toNat limit).2.1.length ≤ 1000 ∧ 1 + wsum L ≤ (Sv.serP (formT t) (lines (circT t).1).toNat limit).2.1.length:=by
 unfold Sv.serP at h ⊢
 dsimp only at h ⊢
 rw [ZnC h,Sv.bls_len (Sv.brn_asg _ _ _ h)]
 have h1:=hT.circ.lines1
 have hs:=hT.sum
 unfold Cc.lines at h1 ⊢
 omega
end
theorem Zi6 (limit:Int):Y9 limit = some (decide (0 ≤ limit ∧ limit ≤ 3000)):=by
 unfold Y9; congr 1; rw [Zpr]; simp
theorem ZhQ {t:D.Term} {limit:Int} (h:¬ (termB t = true ∧ t.W = 1 ∧ 0 ≤ limit ∧ limit ≤ 3000)):solP t limit = (0,[]):=by unfold solP; rw [ZnA h]
theorem ZkE {t:D.Term} {limit:Int} (h:termB t = true ∧ t.W = 1 ∧ 0 ≤ limit ∧ limit ≤ 3000) (h3:¬ (circT t).2.2 = true):solP t limit = (3,[]):=by unfold solP; rw [ZnC h,ZnA h3]
theorem ZjR {t:D.Term} {limit:Int} (h:termB t = true ∧ t.W = 1 ∧ 0 ≤ limit ∧ limit ≤ 3000) (h3:(circT t).2.2 = true):solP t limit = if (Sv.serP (formT t) (lines (circT t).1).toNat limit).1 = 1 then (1,valsP (Sv.serP (formT t) (lines (circT t).1).toNat limit).2.1 1 ((ZA fuel t).getD [])) else ((Sv.serP (formT t) (lines (circT t).1).toNat limit).1,[]):=by unfold solP; rw [ZnC h,ZnC h3]
theorem Zem {t:D.Term} {limit:Int} (hs:msz t ≤ 1048576):YQ fuel t limit = some (solP t limit):=by
 unfold YQ
 rw [Zce hs]
 simp only [Zn4]
 by_cases h:termB t = true
 rotate_left
 ·rw [ZhQ (fun q => h q.1)]
  have h':termB t = false:=by simpa using h
  rw [h']; rfl
 by_cases hw:t.W = 1
 rotate_left
 ·rw [ZhQ (fun q=>hw q.2.1),h,show (t.W != 1) = true by simpa using hw]; rfl
 rw [h,show (t.W != 1) = false by simpa using hw,Zi6]
 simp only [ZnY,Zo4,Zn6,ZnI,Zn4]
 by_cases hl:0 ≤ limit ∧ limit ≤ 3000
 rotate_left
 ·rw [ZhQ (fun q=>hl q.2.2),decide_eq_false hl]; rfl
 rw [decide_eq_true hl]
 simp only [ZnY,Zn6,ZnI,ZhE hs,Zn4]
 by_cases h3:(circT t).2.2 = true
 rotate_left
 ·rw [ZkE ⟨h,hw,hl⟩ h3,ZnC (by simpa using h3)]
 rw [ZjR ⟨h,hw,hl⟩ h3,ZnA (by rw [h3]; decide)]
 obtain ⟨L,hT⟩:=ZgB h hs h3
 have hg:=hT.circ.len
 have f1:=(ZeH hT hw).1
 have f3:=ZkF hT hw
 rw [show get? (circT t).2.1 0 = _ from (get?_nat (i:=0)).trans (lit0 hT hw).1]
 simp only [Zn4]
 rw [Cc.impl_FormulaOf_eq hT.circ.fit (by omega),Zkx hT hw]
 simp only [Zn4,ZnY,Zn6,ZnI]
 rw [Sv.impl_search f1 hl.1 hl.2 (by unfold fuel; omega) f3]
 simp only [Zn4]
 by_cases h4:(Sv.serP (formT t) (lines (circT t).1).toNat limit).1 = 1
 ·obtain ⟨m1, m2⟩ := Zhi hT h4
  rw [ZnA (by simpa using h4),ZnC h4,hT.vars]
  simp only [Zol]
  rw [Zf6 m1 hT.num hT.wid (by unfold fuel; omega) m2 hT.ivars]; rfl
 ·rw [ZnC (by simpa using h4),ZnA h4]
end Go.Proofs.YthlolmkdppfioaaGreat
end
section
namespace Go.Proofs.YthlolmkdppfioaaGreat.Sv
open Go.GL
set_option linter.unusedSimpArgs false
set_option maxRecDepth 100000
def tr (M:Nat → Bool) (x:Int):Bool:=if x < 0 then !M x.natAbs else M x.natAbs
theorem Zbs {M:Nat → Bool} {x:Int} (h:x ≠ 0):tr M (-x) = !tr M x:=by
 unfold tr
 rw [Zqu]
 by_cases c:x < 0
 ·rw [ZnA (by omega),ZnC c,Bool.not_not]
 ·rw [ZnC (by omega),ZnA c]
def Sat (M:Nat → Bool) (cs:List (List Int)):Prop:=∀ c ∈ cs,∃ x ∈ c,tr M x = true
def Ext (m:Nat) (M:Nat → Bool) (a:List Int):Prop:=∀ x,isL m x → lv a x = 1 → tr M x = true
section
variable {f:D.Formula} {m:Nat} {limit:Int} {M:Nat → Bool} {cs:List (List Int)}
theorem ZkL {S:Int → Prop} (hcs:∀ c ∈ cs,ClM m c) (hM:Sat M cs) (hS:∀ x,S x → tr M x = true) {x:Int} (hd:Der cs S x):tr M x = true:=by
 induction hd with
 | base hx=>exact hS _ hx
 | @unit c x hc hx _ ih=>
  obtain ⟨y,hy,hy1⟩:=hM c hc
  by_cases e:y = x
  ·rw [← e]; exact hy1
  ·have := ih y hy e
   rw [Zbs ((hcs c hc).lit y hy).1,hy1] at this
   cases this
theorem ZmB {S:Int → Prop} (hcs:∀ c ∈ cs,ClM m c) (hM:Sat M cs) (hS:∀ x,S x → tr M x = true) (hb:Bad cs S):False:=by
 obtain ⟨c,hc,h⟩:=hb
 obtain ⟨y,hy,hy1⟩:=hM c hc
 have:=ZkL hcs hM hS (h y hy)
 rw [Zbs ((hcs c hc).lit y hy).1,hy1] at this
 cases this
theorem ZdU {v b:List Int} (hcs:∀ c ∈ cs,ClM m c) (hM:Sat M cs) (hv:Ext m M v) (h:clo m cs v = some b):Ext m M b:=fun x hx h1=>
 ZkL hcs hM (fun y hy=>hv y hy.1 hy.2) ((ZaG h).snd x hx h1)
theorem Zmp {S:Int → Prop} (hcs:∀ c ∈ cs,ClM m c) (hS:∀ x,S x → isL m x):∀ (n:Nat) (a:List Int),zer a ≤ n → Way m cs S a → (∃ b,Okc m cs S b) ∨ Bad cs S:=by
 intro n
 induction n with
 | zero=>
  intro a hz hw
  have:0 < zer a:=Zqm.2 (by
   have h1:=hw.asg.nul
   have h2:=Za0 (a:=a) (i:=0) (by have:=hw.asg.len; omega)
   rw [h1] at h2
   exact ZnN h2)
  omega
 | succ n ih=>
  intro a hz hw
  by_cases h:∀ c ∈ cs,good a c
  ·exact .inl ⟨a,hw.asg,hw.ext,hw.snd,h⟩
  ·obtain ⟨c, hc⟩ := Classical.not_forall.1 h
   obtain ⟨hc,hg⟩:=Classical.not_imp.1 hc
   have hm:=hcs c hc
   have hn:∀ x ∈ c,lv a x ≠ 1:=fun x hx e=>hg (.inl ⟨x,hx,e⟩)
   cases hfr:free a c with
   | nil=>exact .inr (ZgV hw.asg hw.snd hc hm hn hfr)
   | cons l rest=>
    cases rest with
    | cons y r=>exact absurd (Zg2 hm (by rw [hfr]; simp)) hg
    | nil=>
     obtain ⟨w1,hl,h0,-⟩:=hw.unit hS hc hm hn hfr
     have:=Zdd hw.asg hl h0
     exact ih _ (by omega) w1
theorem ZjW (hf:FmP f m) {v:List Int} (hA:Asg m v) (h:clo m f.Clauses v = none) (hM:Sat M f.Clauses):¬ Ext m M v:=fun hv=>by
 rcases Zmp hf.cls ZfG _ v (ZnK _) (Zeh (cs:=f.Clauses) hA) with ⟨b,hb⟩ | hb
 ·rw [Zh6 hf.cls hb] at h; cases h
 ·exact ZmB hf.cls hM (fun y hy=>hv y hy.1 hy.2) hb
theorem ZfF {a:List Int} (hA:Asg m a) (hv:Ext m M a) {l:Int} (hl:isL m l) (h0:lv a l = 0) (h:tr M l = true):Ext m M (stA a l):=fun x hx h1=>by
 rw [Za9 hA.len hl hx.1] at h1
 split at h1
 ·rename_i e; rw [e]; exact h
 ·split at h1
  ·cases h1
  ·exact hv x hx h1
def mdl (a:List Int) (v:Nat):Bool:=decide (a.getD v 0 = 1)
def Le (m:Nat) (M M':Nat → Bool):Prop:=(∀ v,1 ≤ v → v ≤ m → M v = M' v) ∨ ∃ v,1 ≤ v ∧ v ≤ m ∧ (∀ u,1 ≤ u → u < v → M u = M' u) ∧ M v = false ∧ M' v = true
structure Full (m:Nat) (cs:List (List Int)) (b:List Int):Prop where
 asg:Asg m b
 cl:∀ c ∈ cs,good b c
 all:LF b 0
theorem Full.val {b:List Int} (h:Full m cs b) {x:Int} (hx:isL m x):lv b x ≠ 0:=by
 have hl:=h.asg.len
 rcases h.all with ⟨-,h1⟩ | ⟨h1,_⟩
 ·have := h1 x.natAbs (by have := hx.1; omega) (by have := hx.2; omega)
  unfold lv
  split <;> omega
 ·omega
theorem Full.tr {b:List Int} (h:Full m cs b) {x:Int} (hx:isL m x):tr (mdl b) x = decide (lv b x = 1):=by
 have h0:=h.val hx
 have hv:=h.asg.val x.natAbs
 unfold Sv.tr mdl
 unfold lv at h0 ⊢
 by_cases c:x < 0
 ·rw [ZnC c] at h0 ⊢
  rw [ZnC c]
  rcases hv with e | e | e <;> rw [e] at h0 ⊢ <;> first | rfl | exact absurd rfl h0
 ·rw [ZnA c] at h0 ⊢
  rw [ZnA c]
theorem Full.sat {b:List Int} (hcs:∀ c ∈ cs,ClM m c) (h:Full m cs b):Sat (mdl b) cs:=fun c hc=>by
 rcases h.cl c hc with ⟨x,hx,h1⟩ | ⟨x,hx,y,hy,hne,h1,h2⟩
 ·exact ⟨x,hx,by rw [h.tr ((hcs c hc).lit x hx),h1]; rfl⟩
 ·exact absurd h1 (h.val ((hcs c hc).lit x hx))
structure First (m:Nat) (cs:List (List Int)) (a:List Int) (r:Int × List Int × Int):Prop where
 yes:r.1 = 1 → Full m cs r.2.1 ∧ (∀ x,isL m x → lv a x = 1 → lv r.2.1 x = 1) ∧ ∀ M,Sat M cs → Ext m M a → Le m (mdl r.2.1) M
 no:r.1 = 2 → ∀ M,Sat M cs → ¬ Ext m M a
theorem agree {a b:List Int} (hb:Full m cs b) (hx:∀ x,isL m x → lv a x = 1 → lv b x = 1) (hM:Ext m M a) {u:Nat} (h1:1 ≤ u) (h2:u ≤ m) (h0:a.getD u 0 ≠ 0) (hA:Asg m a):mdl b u = M u:=by
 have L1:isL m (u:Int):=⟨by omega,by omega⟩
 have L2:isL m (-(u:Int)):=⟨by omega,by omega⟩
 have e:∀ c:List Int,lv c (u:Int) = c.getD u 0:=fun c=>by unfold lv; rw [ZnA (by omega)]; simp
 have t1:∀ N:Nat → Bool,tr N (u:Int) = N u:=fun N=>by unfold tr; rw [ZnA (by omega)]; simp
 have t2:∀ N:Nat → Bool,tr N (-(u:Int)) = !N u:=fun N=>by rw [Zbs L1.1,t1]
 rcases hA.val u with h | h | h
 ·have a1 : lv a (-(u : Int)) = 1 := by rw [ZaF L1.1, e, h]; rfl
  have a2:=hM _ L2 a1
  have a3:=hb.tr L2
  rw [hx _ L2 a1,t2] at a3
  rw [t2] at a2
  cases hq:mdl b u <;> cases hp:M u <;> simp [hq,hp] at a2 a3 ⊢
 ·exact absurd h h0
 ·have a1 : lv a (u : Int) = 1 := by rw [e, h]
  have a2:=hM _ L1 a1
  have a3:=hb.tr L1
  rw [hx _ L1 a1,t1] at a3
  rw [t1] at a2
  rw [a2,a3]; rfl
theorem ZhC (hf:FmP f m):∀ (d:Nat) (a:List Int) (s:Int),Asg m a → (∀ c ∈ f.Clauses,good a c) → zer a ≤ d → First m f.Clauses a (srch m f.Clauses limit d a s):=by
 intro d
 induction d with
 | zero=>
  intro a s hA hg hz
  have:0 < zer a:=Zqm.2 (by
   have h1:=hA.nul
   have h2:=Za0 (a:=a) (i:=0) (by have:=hA.len; omega)
   rw [h1] at h2
   exact ZnN h2)
  omega
 | succ d ih=>
  intro a s hA hg hz
  obtain ⟨w,hw,-⟩:=Ziv (a:=a) (q:=[]) (n:=2000) (by have:=hA.len; have:=hf.small; omega) (ZnK _)
  rw [Zcn,Zlm hw]
  by_cases c1:w = 0
  ·rw [ZnC c1]
   subst c1
   refine ⟨fun _=>⟨⟨hA,hg,hw⟩,fun _ _ h=>h,fun M _ hM=>.inl fun v h1 h2=>?_⟩,fun h=>(by cases h)⟩
   have F:Full m f.Clauses a:=⟨hA,hg,hw⟩
   have hv:=F.val (x:=(v:Int)) ⟨by omega,by omega⟩
   exact agree F (fun _ _ h=>h) hM h1 h2 (by unfold lv at hv; rw [ZnA (by omega)] at hv; simpa using hv) hA
  rw [ZnA c1]
  by_cases c2:s = limit
  ·rw [ZnC c2]; exact ⟨fun h=>(by cases h),fun h=>(by cases h)⟩
  rw [ZnA c2]
  obtain ⟨k1,k2,k3,k4⟩:=ZgP hA hw c1
  have hwm:1 ≤ w ∧ w ≤ m:=by have:=k1.2; omega
  have t1:∀ N:Nat → Bool,tr N (w:Int) = N w:=fun N=>by unfold tr; rw [ZnA (by omega)]; simp
  have t2:∀ N:Nat → Bool,tr N (-(w:Int)) = !N w:=fun N=>by rw [Zbs k1.1,t1]
  have below:∀ u,1 ≤ u → u < w → a.getD u 0 ≠ 0:=fun u h1 h2=>by
   rcases hw with ⟨h,_⟩ | ⟨_,_,_,h⟩
   ·exact absurd h c1
   ·exact h u h1 h2
  have one:∀ (l:Int) (s':Int),isL m l → lv a l = 0 → First m f.Clauses (stA a l) (brn m f.Clauses limit d (stA a l) s') ∧ ∀ x,isL m x → lv a x = 1 → lv (stA a l) x = 1:=fun l s' hl h0=>by
   have hA1:=ZdW hA hl
   have hz1:=Zdd hA hl h0
   refine ⟨?_,fun x hx h=>by rw [ZcZ hA hl h0 hx.1 (by rw [h]; decide)]; exact h⟩
   unfold brn
   cases hc:clo m f.Clauses (stA a l) with
   | none=>exact ⟨fun h=>(by cases h),fun _ M hM=>ZjW hf hA1 hc hM⟩
   | some b=>
    have hok:=ZaG hc
    have hz2:=ZgY hA1 hok
    obtain ⟨i1,i2⟩:=ih b s' hok.asg hok.cl (by omega)
    refine ⟨fun h=>?_,fun h M hM hv=>i2 h M hM (ZdU hf.cls hM hv hc)⟩
    obtain ⟨j1,j2,j3⟩:=i1 h
    exact ⟨j1,fun x hx h1=>j2 x hx (hok.ext x ⟨hx,h1⟩),fun M hM hv=>j3 M hM (ZdU hf.cls hM hv hc)⟩
  obtain ⟨⟨p1,p2⟩,p3⟩:=one (-(w:Int)) (s + 1) k2 k4
  by_cases c:(brn m f.Clauses limit d (stA a (-(w:Int))) (s + 1)).1 = 2
  ·rw [ZnC c]
   obtain ⟨⟨q1,q2⟩,q3⟩:=one (w:Int) (brn m f.Clauses limit d (stA a (-(w:Int))) (s + 1)).2.2 k1 k3
   have must:∀ M,Sat M f.Clauses → Ext m M a → Ext m M (stA a (w:Int)):=fun M hM hv=>by
    refine ZfF hA hv k1 k3 ?_
    cases h:tr M (w:Int) with
    | true=>rfl
    | false=>exact absurd (ZfF hA hv k2 k4 (by rw [Zbs k1.1,h]; rfl)) (p2 c M hM)
   refine ⟨fun h=>?_,fun h M hM hv=>q2 h M hM (must M hM hv)⟩
   obtain ⟨j1,j2,j3⟩:=q1 h
   exact ⟨j1,fun x hx h1=>j2 x hx (q3 x hx h1),fun M hM hv=>j3 M hM (must M hM hv)⟩
  ·rw [ZnA c]
   refine ⟨fun h=>?_,fun h=>absurd h c⟩
   obtain ⟨j1,j2,j3⟩:=p1 h
   have ex:∀ x,isL m x → lv a x = 1 → lv (brn m f.Clauses limit d (stA a (-(w:Int))) (s + 1)).2.1 x = 1:=fun x hx h1=>j2 x hx (p3 x hx h1)
   refine ⟨j1,ex,fun M hM hv=>?_⟩
   cases h:tr M (w:Int) with
   | false=>exact j3 M hM (ZfF hA hv k2 k4 (by rw [Zbs k1.1,h]; rfl))
   | true=>
    refine .inr ⟨w,hwm.1,hwm.2,fun u h1 h2=>agree j1 ex hv h1 (by omega) (below u h1 h2) hA,?_,by rw [t1] at h; exact h⟩
    have e1:lv (stA a (-(w:Int))) (-(w:Int)) = 1:=by rw [Za9 hA.len k2 k2.1,ZnC rfl]
    have e2:=j1.tr k2
    rw [j2 _ k2 e1,t2] at e2
    cases hq:mdl (brn m f.Clauses limit d (stA a (-(w:Int))) (s + 1)).2.1 w with
    | false=>rfl
    | true=>rw [hq] at e2; cases e2
theorem brn_first (hf:FmP f m) {v:List Int} (hA:Asg m v) (s:Int):First m f.Clauses v (brn m f.Clauses limit (m + 1) v s):=by
 unfold brn
 cases hc:clo m f.Clauses v with
 | none=>exact ⟨fun h=>(by cases h),fun _ M hM=>ZjW hf hA hc hM⟩
 | some b=>
  have hok:=ZaG hc
  obtain ⟨i1,i2⟩:=ZhC (limit:=limit) hf (m + 1) b s hok.asg hok.cl (ZiF hok.asg)
  refine ⟨fun h=>?_,fun h M hM hv=>i2 h M hM (ZdU hf.cls hM hv hc)⟩
  obtain ⟨j1,j2,j3⟩:=i1 h
  exact ⟨j1,fun x hx h1=>j2 x hx (hok.ext x ⟨hx,h1⟩),fun M hM hv=>j3 M hM (ZdU hf.cls hM hv hc)⟩
end
open Cc (CircP lines litN iab accF stepF)
def vm (w:List Bool) (i:Nat):Bool:=w.getD (i - 1) false
theorem Zm3 {w u:List Bool} {i:Nat} (h1:1 ≤ i) (h:i ≤ w.length):vm (w ++ u) i = vm w i:=by
 unfold vm
 rw [Zn8,Zn8,ZnJ (by omega)]
theorem Zhr {w u:List Bool} {x:Int} (h0:x ≠ 0) (h:x.natAbs ≤ w.length):tr (vm (w ++ u)) x = tr (vm w) x:=by
 unfold tr
 rw [Zm3 (by omega) h]
def evalG:List D.Gate → List Bool → List Bool
 | [],w=>w
 | g :: gs,w=>evalG gs (w ++ [tr (vm w) g.A && tr (vm w) g.B])
theorem Zc0 (g:D.Gate):∀ (gs:List D.Gate) (w:List Bool),evalG (gs ++ [g]) w = evalG gs w ++ [tr (vm (evalG gs w)) g.A && tr (vm (evalG gs w)) g.B]
 | [],_=>rfl
 | h :: gs,w=>by rw [Zpx,evalG,Zc0 g gs]; rfl
theorem Zfs:∀ (gs:List D.Gate) (w:List Bool),(evalG gs w).length = w.length + gs.length
 | [],_=>rfl
 | h :: gs,w=>by rw [evalG,Zfs gs,ZnD,ZnL]; simp only [ZnL,Zom]; omega
theorem evalG_pre:∀ (gs:List D.Gate) (w:List Bool),∃ u,evalG gs w = w ++ u
 | [],w=>⟨[],by rw [evalG,Zoz]⟩
 | h :: gs,w=>by
  obtain ⟨u,e⟩:=evalG_pre gs (w ++ [tr (vm w) h.A && tr (vm w) h.B])
  exact ⟨[tr (vm w) h.A && tr (vm w) h.B] ++ u,by rw [evalG,e,Zoh]⟩
theorem ZkZ {M:Nat → Bool} {a b l:Int} (ha:a ≠ 0) (hb:b ≠ 0) (hl:l ≠ 0):((∃ x ∈ [a,-l],tr M x = true) ∧ (∃ x ∈ [b,-l],tr M x = true) ∧ ∃ x ∈ [-a,-b,l],tr M x = true) ↔ tr M l = (tr M a && tr M b):=by
 simp only [Zof,Zpy,or_false,exists_eq_or_imp,exists_eq_left,Zbs ha,Zbs hb,Zbs hl]
 cases tr M a <;> cases tr M b <;> cases tr M l <;> simp
theorem Zmv {c:D.Circuit} (hc:CircP c) {M:Nat → Bool}:∀ k,k ≤ c.Gates.length → (Sat M (accF c k) ↔ M 1 = true ∧ ∀ i (h:i < c.Gates.length),i < k → tr M (c.Inputs + 2 + (i:Int)) = (tr M c.Gates[i].A && tr M c.Gates[i].B)):=by
 intro k
 induction k with
 | zero=>
  intro _
  have:tr M 1 = M 1:=rfl
  refine ⟨fun h=>?_,fun h c hc=>?_⟩
  ·obtain ⟨x, hx, h1⟩ := h [1] (by simp [accF])
   rw [ZnX] at hx
   rw [hx] at h1
   exact ⟨h1,fun i _ h=>by omega⟩
  ·simp only [accF, ZnX] at hc
   subst hc
   exact ⟨1,by simp,h.1⟩
 | succ k ih=>
  intro hk
  have hkl:k < c.Gates.length:=by omega
  have eg:c.Gates.getD k ⟨0,0⟩ = c.Gates[k]:=by rw [Zn8,Zn5 hkl]; rfl
  have o:=Cc.gate_ok hc (Zn5 hkl)
  have na:c.Gates[k].A ≠ 0:=fun e=>by have:=(Cc.litN_iff.1 o.a).1; rw [e] at this; revert this; decide
  have nb:c.Gates[k].B ≠ 0:=fun e=>by have:=(Cc.litN_iff.1 o.b).1; rw [e] at this; revert this; decide
  have nl:c.Inputs + 2 + (k:Int) ≠ 0:=by have:=hc.i0; omega
  have hS:Sat M (accF c (k + 1)) ↔ Sat M (accF c k) ∧ tr M (c.Inputs + 2 + (k:Int)) = (tr M c.Gates[k].A && tr M c.Gates[k].B):=by
   rw [← ZkZ na nb nl]
   unfold Sat
   rw [accF,eg]
   simp only [ZnS]
   constructor
   ·intro h
    refine ⟨fun x hx=>h x (.inl hx),h _ (.inr ?_),h _ (.inr ?_),h _ (.inr ?_)⟩ <;> unfold stepF <;> simp
   ·rintro ⟨h1, h2, h3, h4⟩ x (hx | hx)
    ·exact h1 x hx
    ·unfold stepF at hx
     simp only [Zof,Zpy,or_false] at hx
     rcases hx with rfl | rfl | rfl
     ·exact h2
     ·exact h3
     ·exact h4
  rw [hS,ih (by omega)]
  constructor
  ·rintro ⟨⟨h1, h2⟩, h3⟩
   refine ⟨h1,fun i hi hlt=>?_⟩
   by_cases e:i = k
   ·subst e; exact h3
   ·exact h2 i hi (by omega)
  ·rintro ⟨h1, h2⟩
   exact ⟨⟨h1,fun i hi hlt=>h2 i hi (by omega)⟩,h2 k hkl (by omega)⟩
theorem lines_uniq {c:D.Circuit} (hc:CircP c) {w:List Bool} (hw:(w.length:Int) = lines c):Sat (vm w) (accF c c.Gates.length) ↔ w = evalG c.Gates (true :: (w.drop 1).take c.Inputs.toNat):=by
 have hi0:=hc.i0
 have hL:(w.length:Int) = c.Inputs + 1 + c.Gates.length:=hw
 have hI:((c.Inputs.toNat:Nat):Int) = c.Inputs:=by omega
 generalize hn:c.Inputs.toNat = I at hI ⊢
 rw [Zmv hc _ (ZnK _)]
 have len0:(true :: (w.drop 1).take I).length = I + 1:=by rw [ZnL,ZnF,Zoe]; omega
 have lenk:∀ k,k ≤ c.Gates.length → (evalG (c.Gates.take k) (true :: (w.drop 1).take I)).length = I + 1 + k:=fun k hk=>by rw [Zfs,len0,ZnF]; omega
 have small:∀ k (h:k < c.Gates.length),(c.Gates[k].A ≠ 0 ∧ c.Gates[k].A.natAbs ≤ I + 1 + k) ∧ c.Gates[k].B ≠ 0 ∧ c.Gates[k].B.natAbs ≤ I + 1 + k:=fun k h=>by
  have o:=Cc.gate_ok hc (Zn5 h)
  have a1:=(Cc.litN_iff.1 o.a).1
  have b1:=(Cc.litN_iff.1 o.b).1
  have a2:=o.al'
  have b2:=o.bl'
  rw [Cc.iab_neg] at a2 b2
  have e1:iab (c.Inputs + 2 + (k:Int)) = c.Inputs + 2 + (k:Int):=by unfold iab; rw [ZnA (by omega)]
  rw [e1] at a2 b2
  have ia:∀ x:Int,iab x = (x.natAbs:Int):=fun x=>by unfold iab; split <;> omega
  rw [ia] at a1 b1 a2 b2
  exact ⟨⟨by omega,by omega⟩,by omega,by omega⟩
 constructor
 ·rintro ⟨h1, h2⟩
  have key:∀ k,k ≤ c.Gates.length → evalG (c.Gates.take k) (true :: (w.drop 1).take I) = w.take (I + 1 + k):=by
   intro k
   induction k with
   | zero=>
    intro _
    rw [Zqt,evalG,ZoQ]
    cases w with
    | nil=>simp at hL; omega
    | cons b u=>
     have:b = true:=h1
     rw [this]; simp
   | succ k ih=>
    intro hk
    have hkl:k < c.Gates.length:=by omega
    have e:=ih (by omega)
    obtain ⟨⟨a0,a1⟩,b0,b1⟩:=small k hkl
    rw [ZnG hkl,Zc0,e,← Zro,ZnG (by omega)]
    congr 2
    have hlt:(w.take (I + 1 + k)).length = I + 1 + k:=by rw [ZnF]; omega
    have t:∀ x:Int,x ≠ 0 → x.natAbs ≤ I + 1 + k → tr (vm (w.take (I + 1 + k))) x = tr (vm w) x:=fun x h0 hx=>by
     have:=Zhr (w:=w.take (I + 1 + k)) (u:=w.drop (I + 1 + k)) h0 (by omega)
     rw [Zo0] at this
     exact this.symm
    rw [t _ a0 a1,t _ b0 b1,← h2 k hkl hkl]
    unfold tr vm
    rw [ZnA (by omega),show (c.Inputs + 2 + (k:Int)).natAbs - 1 = I + 1 + k by omega,Zn8,Zn5 (by omega)]; rfl
  have:=key c.Gates.length (ZnK _)
  have e2:w.take (I + 1 + c.Gates.length) = w:=Zov (by omega)
  rw [Zou,e2] at this
  exact this.symm
 ·intro h
  have pre:∀ k,k ≤ c.Gates.length → ∃ u,w = evalG (c.Gates.take k) (true :: (w.drop 1).take I) ++ u:=fun k hk=>by
   obtain ⟨u,e⟩:=evalG_pre (c.Gates.drop k) (evalG (c.Gates.take k) (true :: (w.drop 1).take I))
   refine ⟨u,?_⟩
   rw [← e]
   have app:∀ (g1 g2:List D.Gate) (z:List Bool),evalG (g1 ++ g2) z = evalG g2 (evalG g1 z):=fun g1=>by
    induction g1 with
    | nil=>intro _ _; rfl
    | cons x g1 ih=>intro g2 z; rw [Zpx,evalG,ih]; rfl
   rw [← app,Zo0]
   exact h
  refine ⟨?_,fun i hi _=>?_⟩
  ·rw [h]
   obtain ⟨u,e⟩:=evalG_pre c.Gates (true :: (w.drop 1).take I)
   rw [e]; rfl
  ·obtain ⟨⟨a0, a1⟩, b0, b1⟩ := small i hi
   obtain ⟨u,e⟩:=pre (i + 1) (by omega)
   obtain ⟨u',e'⟩:=pre i (by omega)
   have l1:=lenk i (by omega)
   rw [ZnG hi,Zc0] at e
   have tA:tr (vm w) c.Gates[i].A = tr (vm (evalG (c.Gates.take i) (true :: (w.drop 1).take I))) c.Gates[i].A:=by
    conv=>lhs; rw [e']
    exact Zhr a0 (by omega)
   have tB:tr (vm w) c.Gates[i].B = tr (vm (evalG (c.Gates.take i) (true :: (w.drop 1).take I))) c.Gates[i].B:=by
    conv=>lhs; rw [e']
    exact Zhr b0 (by omega)
   rw [tA,tB]
   conv=>lhs; rw [e]
   unfold tr vm
   rw [ZnA (by omega),show (c.Inputs + 2 + (i:Int)).natAbs - 1 = I + 1 + i by omega,Zn8,ZnJ (by rw [ZnD,l1]; simp),ZnH (by omega),l1,ZoR]; rfl
end Go.Proofs.YthlolmkdppfioaaGreat.Sv
end
section
namespace Go.Proofs.YthlolmkdppfioaaGreat
open Go.GL
set_option linter.unusedSimpArgs false
set_option maxRecDepth 100000
theorem Zlt (x:D.Value) (xs:List D.Value) (s:Str):fnd (x :: xs) s = if x.Name = s then some x else fnd xs s:=by
 unfold fnd
 by_cases e:x.Name = s <;> simp [Zq2,e]
open Cc (BS LS CircP Grow GoodL litN lines litN_iff litV ev vB ZU opB bi)
def inB (l:List D.Value):List Bool:=l.flatMap fun x=>(List.range x.W.toNat).reverse.map (bitI x.N)
def ky (v:D.Value):Str × Int:=(v.Name,v.W)
theorem ZbV (v:D.Value) (l:List D.Value):inB (v :: l) = (List.range v.W.toNat).reverse.map (bitI v.N) ++ inB l:=rfl
theorem ZeU:∀ {vs ws:List D.Value} {a:Int} {s:Str},vs.map ky = ws.map ky → atV vs a s = atV ws a s
 | [],[],a,s,_=>rfl
 | v :: vs,w :: ws,a,s,h=>by
  simp only [ZnE,List.cons.injEq,ky,Prod.mk.injEq] at h
  unfold atV
  rw [h.1.1,h.1.2,ZeU (a:=a + w.W) h.2]
theorem Zis:∀ (l:List D.Value) (a:Nat) (E:List Bool),(∀ v ∈ l,1 ≤ v.W) → (l.Pairwise fun x y=>x.Name ≠ y.Name) → (∀ j,j < (inB l).length → E[a + j]? = (inB l)[j]?) → ∀ x ∈ l,∀ k,k < x.W.toNat → ∃ i:Nat,atV l (a:Int) x.Name = (i:Int) ∧ k + 1 ≤ i ∧ E[i - k - 1]? = some (bitI x.N k)
 | [],_,_,_,_,_,x,hx,_,_=>by cases hx
 | v :: l,a,E,h1,hp,hE,x,hx,k,hk=>by
  rw [Zpq] at hp
  have hv:=h1 v (by simp)
  have hlen:((List.range v.W.toNat).reverse.map (bitI v.N)).length = v.W.toNat:=by simp
  rw [ZbV] at hE
  unfold atV
  by_cases c:v.Name = x.Name
  ·rw [ZnC (by rw [c]; exact ZbM _)]
   have hxv:x = v:=by
    rcases Zof.1 hx with h | h
    ·exact h
    ·exact absurd c (hp.1 x h)
   subst hxv
   refine ⟨a + x.W.toNat,by omega,by omega,?_⟩
   have:=hE (x.W.toNat - 1 - k) (by rw [ZnD,hlen]; omega)
   rw [show a + x.W.toNat - k - 1 = a + (x.W.toNat - 1 - k) by omega,this,ZnJ (by rw [hlen]; omega),ZnW,List.getElem?_reverse (by simp; omega),Zqp,Zp2 (by omega),show x.W.toNat - 1 - (x.W.toNat - 1 - k) = k by omega]
   rfl
  ·rw [ZnA (by rw [Zbv]; simpa using c)]
   have hxl:x ∈ l:=(Zof.1 hx).resolve_left fun h=>c (by rw [h])
   obtain ⟨i,g1,g2,g3⟩:=Zis l (a + v.W.toNat) E (fun y hy=>h1 y (by simp [hy])) hp.2 (fun j hj=>by
    have:=hE (v.W.toNat + j) (by rw [ZnD,hlen]; omega)
    rw [show a + v.W.toNat + j = a + (v.W.toNat + j) by omega,this,ZnH (by rw [hlen]; omega),hlen,show v.W.toNat + j - v.W.toNat = j by omega]) x hxl k hk
   refine ⟨i,?_,g2,g3⟩
   rw [← g1]
   congr 1; omega
structure Vls (L l:List D.Value):Prop where
 ky:l.map ky = L.map ky
 word:∀ x ∈ l,0 ≤ x.N ∧ x.N < 2 ^ x.W.toNat
theorem ZhV {L l:List D.Value} (h:l.map ky = L.map ky) {x:D.Value} (hx:x ∈ l):∃ v ∈ L,v.Name = x.Name ∧ v.W = x.W:=by
 have:Go.Proofs.YthlolmkdppfioaaGreat.ky x ∈ L.map Go.Proofs.YthlolmkdppfioaaGreat.ky:=h ▸ List.mem_map_of_mem hx
 obtain ⟨v,hv,e⟩:=ZoB.1 this
 simp only [Go.Proofs.YthlolmkdppfioaaGreat.ky,Prod.mk.injEq] at e
 exact ⟨v,hv,e⟩
theorem Znf {L l:List D.Value} (h:l.map ky = L.map ky) {R:Str → Str → Prop} (hp:L.Pairwise fun x y=>R x.Name y.Name):l.Pairwise fun x y=>R x.Name y.Name:=by
 have h1:l.map (·.Name) = L.map (·.Name):=by
  have:=congrArg (List.map Prod.fst) h
  rw [ZoG,ZoG] at this
  exact this
 have h2:(L.map (·.Name)).Pairwise R:=ZqH.2 hp
 rw [← h1] at h2
 exact ZqH.1 h2
theorem ZmG {l:List D.Value} (hp:l.Pairwise fun x y=>x.Name ≠ y.Name) {x:D.Value} (hx:x ∈ l):fnd l x.Name = some x:=by
 induction l with
 | nil=>cases hx
 | cons y l ih=>
  rw [Zpq] at hp
  rw [Zlt]
  rcases Zof.1 hx with rfl | hx
  ·rw [ZnC rfl]
  ·rw [ZnA (hp.1 x hx),ih hp.2 hx]
theorem ZjP {t:D.Term} {L l:List D.Value} {E:List Bool} (hL:VL t L) (hw:∀ v ∈ L,1 ≤ v.W ∧ v.W ≤ 16) (h:Vls L l) (hE:[true] ++ inB l <+: E):∀ p ∈ vrs t,EV L l E p:=by
 intro p hp
 obtain ⟨v,hv,v1,v2⟩:=hL.all p hp
 obtain ⟨x,hx,e1,e2⟩:=ZhV h.ky.symm hv
 have hpl:=Znf h.ky (R:=fun a b=>a ≠ b) hL.nm
 have hwl:∀ y ∈ l,1 ≤ y.W:=fun y hy=>by
  obtain ⟨z,hz,-,z2⟩:=ZhV h.ky hy
  have:=hw z hz
  omega
 have hxw:=h.word x hx
 refine ⟨x,?_,by rw [e2,v2],hxw.1,hxw.2,?_⟩
 ·rw [← v1,← e1]; exact ZmG hpl hx
 ·obtain ⟨T, rfl⟩ := hE
  unfold varL
  rw [ZoG]
  refine ZoS fun k hk=>?_
  have hk:=Zoa.1 hk
  simp only [Function.comp]
  obtain ⟨i,g1,g2,g3⟩:=Zis l 1 ([true] ++ inB l ++ T) hwl hpl (fun j hj=>by
   rw [ZnJ (by simp; omega),ZnH (by simp),show 1 + j - [true].length = j by simp]) x hx k (by rw [e2,v2]; exact hk)
  rw [← v1,← e1,ZeU h.ky.symm]
  rw [show ((1:Nat):Int) = 1 from rfl] at g1
  rw [g1]
  have hi:Cc.iab ((i:Int) - (k:Int)) = (i:Int) - k:=by unfold Cc.iab; rw [ZnA (by omega)]
  unfold litV
  rw [ZnA (by omega),hi,show ((i:Int) - (k:Int) - 1).toNat = i - k - 1 by omega,g3]
  rfl
theorem ZdO {L l:List D.Value} (h:l.map ky = L.map ky) (hw:∀ v ∈ L,1 ≤ v.W ∧ v.W ≤ 16):((inB l).length:Int) = bitsV L 0:=by
 have key:∀ (l L:List D.Value) (a:Int),l.map ky = L.map ky → (∀ v ∈ L,1 ≤ v.W ∧ v.W ≤ 16) → bitsV L a = a + ((inB l).length:Int):=by
  intro l
  induction l with
  | nil=>intro L a h _; cases L with
   | nil=>simp [bitsV,inB]
   | cons v L=>simp at h
  | cons x l ih=>
   intro L a h hw
   cases L with
   | nil=>simp at h
   | cons v L=>
    simp only [ZnE,List.cons.injEq,ky,Prod.mk.injEq] at h
    have h1:=hw v (by simp)
    rw [Zbt,ih L _ h.2 (fun y hy=>hw y (by simp [hy])),ZbV,ZnD,Zog,Zpi,Zqp,h.1.2]
    omega
 rw [key l L 0 h hw]; omega
theorem Zjk {t:D.Term} (hs:msz t ≤ 1048576) (hok:(circT t).2.2 = true):∃ L,ZA fuel t = some L ∧ VL t L ∧ termB t = true ∧ (∀ v ∈ L,1 ≤ v.W ∧ v.W ≤ 16) ∧ L.length ≤ 30 ∧ CircP (circT t).1 ∧ (circT t).2.1.length = t.W.toNat ∧ (∀ x ∈ (circT t).2.1,litN (lines (circT t).1) x = true) ∧ bitsV L 0 = (circT t).1.Inputs ∧ bitsV L 0 ≤ 30 ∧
  ∀ l,Vls L l → ∀ n:Nat,1048900 ≤ n → ZZ n t l = some ((vB ((circT t).2.1.map (litV (ev (circT t).1 (inB l)))):Int),true):=by
 by_cases h:termB t = true
 ·obtain ⟨L, e, hL, hn, hc, hw, hnm, hlen, hb0⟩ := ZaC h hs
  unfold circT at hok ⊢
  rw [ZnC h,e] at hok
  rw [ZnC h,e]
  simp only [Zol] at hok ⊢
  by_cases hf:bitsV L 0 > 30 ∨ (nP L t (⟨bitsV L 0,[]⟩,false)).2.2 = true
  ·rw [ZnC hf] at hok; cases hok
  rw [ZnA hf]
  have hf1:¬ bitsV L 0 > 30:=fun q=>hf (.inl q)
  have hf2:(nP L t (⟨bitsV L 0,[]⟩,false)).2.2 = false:=by
   cases q:(nP L t (⟨bitsV L 0,[]⟩,false)).2.2
   ·rfl
   ·exact absurd (.inr q) hf
  have hC:=ZcA hb0 (by omega)
  have hv:VF L (⟨bitsV L 0,[]⟩ : D.Circuit):=⟨fun v hv=>(hw v hv).1,rfl⟩
  have g:=Zci hL.nm _ t (⟨bitsV L 0,[]⟩,false) (ZnK _) hn hL.all hC hv
  have f:=Zn3 hL.nm _ t (⟨bitsV L 0,[]⟩,false) (ZnK _) hn hL.all hC hv
  generalize nP L t (⟨bitsV L 0,[]⟩,false) = r at g f hf2
  have hin:r.2.1.Inputs = bitsV L 0:=g.grow.1
  have hlen30:L.length ≤ 30:=by
   have:∀ (M:List D.Value) (a:Int),(∀ v ∈ M,1 ≤ v.W ∧ v.W ≤ 16) → a + (M.length:Int) ≤ bitsV M a:=by
    intro M
    induction M with
    | nil=>intro a _; simp [bitsV]
    | cons v M ih=>
     intro a hM
     have:=ih (a + v.W) (fun y hy=>hM y (by simp [hy]))
     have:=(hM v (by simp)).1
     rw [Zbt,ZnL]
     omega
   have:=this L 0 hw
   omega
  refine ⟨L,rfl,hL,h,hw,hlen30,g.circ,g.len,g.lits,hin.symm,by omega,fun l hl n hn'=>?_⟩
  have hil:=ZdO hl.ky hw
  have hsem:=f.sem hf2 r.2.1 g.circ (Grow.refl _) (inB l) (by rw [hil,hin])
  rw [hsem]
  have hll:l.length ≤ 30:=by
   have:=congrArg List.length hl.ky
   rw [Zog,Zog] at this
   omega
  have hpre:[true] ++ inB l <+: ev r.2.1 (inB l):=by
   have:=Cc.outV_pre (c:=r.2.1) (v:=inB l) (k:=0) (ZoW _)
   simpa [Cc.outV'] using this
  exact (ZfN (vs:=L) (l:=l) (E:=ev r.2.1 (inB l)) hll (cnt t) t (ZnK _) hn (ZjP hL hw hl hpre) n (by omega)).1
 ·unfold circT at hok
  rw [ZnA h] at hok; cases hok
end Go.Proofs.YthlolmkdppfioaaGreat
end
section
namespace Go.Proofs.YthlolmkdppfioaaGreat.Cc
open Go.GL
variable {fuel:Nat} [FU fuel]
theorem Zee {σt ρt:Type} {B:σt → Option (σt ⊕ ρt)} {I:Nat → σt → Prop} {m:Nat} {R:ρt → Prop} (hs:∀ k s,k < m → I k s → ∃ s',B s = some (.inl s') ∧ I (k + 1) s') (hf:∀ s,I m s → ∃ r,B s = some (.inr r) ∧ R r) :
  ∀ (d k:Nat) (s:σt),k + d = m → I k s → ∀ n,d < n → ∃ r,iterN B n s = some r ∧ R r
 | 0,k,s,hk,hi,n,hn=>by
  obtain ⟨n,rfl⟩ : ∃ j,n = j + 1:=⟨n - 1,by omega⟩
  obtain rfl:k = m:=by omega
  obtain ⟨r,h1,h2⟩:=hf s hi
  exact ⟨r,by unfold iterN; rw [h1],h2⟩
 | d + 1,k,s,hk,hi,n,hn=>by
  obtain ⟨n,rfl⟩ : ∃ j,n = j + 1:=⟨n - 1,by omega⟩
  obtain ⟨s',h1,h2⟩:=hs k s (by omega) hi
  obtain ⟨r,h3,h4⟩:=Zee hs hf d (k + 1) s' (by omega) h2 n (by omega)
  exact ⟨r,by unfold iterN; rw [h1]; exact h3,h4⟩
structure CurOk (c:D.l01Cur):Prop where
 i0:0 ≤ c.i
 len:c.b.length ≤ 1048576
theorem band255 (x:Int):0 ≤ band x 255 ∧ band x 255 ≤ 255:=by
 unfold band
 have h:(BitVec.ofInt 64 x &&& BitVec.ofInt 64 255).toNat ≤ 255:=by
  rw [BitVec.toNat_and]; exact Nat.and_le_right
 rw [Ze (by omega) (by omega)]; omega
theorem Zi9 {c:D.l01Cur} (h:CurOk c):∃ x i h',Zaa c = some (x,⟨c.b,i,h'⟩) ∧ 0 ≤ x ∧ x ≤ 255 ∧ CurOk ⟨c.b,i,h'⟩:=by
 unfold Zaa
 have hs:∀ (z:Int) (k:Nat),shr? z (k:Int) = some (z.fdiv (2 ^ min k 64)):=fun z k=>by unfold shr?; rw [ZnA (by omega)]; simp
 have h33:∀ z:Int,∃ y,shr? z 33 = some y:=fun z=>⟨_,hs z 33⟩
 have h45:∀ z:Int,∃ y,shr? z 45 = some y:=fun z=>⟨_,hs z 45⟩
 obtain ⟨y1,e1⟩:=h33 (w64 ((w64 (c.h * 6364136223846793005)) + 1442695040888963407))
 obtain ⟨y2,e2⟩:=h45 (w64 ((w64 (c.h * 6364136223846793005)) + 1442695040888963407))
 rw [e1,e2]
 simp only [Zn4]
 have h0:=h.i0
 have hl:=h.len
 by_cases hlt:c.i < (c.b.length:Int)
 ·rw [ZnC (by rw [Za]; simpa using hlt)]
  have hi:get? c.b c.i = some (c.b[c.i.toNat]'(by omega)):=by
   unfold get?; rw [ZnC h0,Zn5]
  rw [hi]
  exact ⟨_,_,_,rfl,(band255 _).1,(band255 _).2,⟨by simp only; rw [Ze (by omega) (by omega)]; omega,hl⟩⟩
 ·rw [ZnA (by rw [Za]; simpa using hlt)]
  exact ⟨_,_,_,rfl,(band255 _).1,(band255 _).2,⟨h0,hl⟩⟩
theorem Xw {c:D.l01Cur} (h:CurOk c) {n:Int} (hn:0 < n):∃ x i h',Zn c n = some (x,⟨c.b,i,h'⟩) ∧ 0 ≤ x ∧ x < n ∧ CurOk ⟨c.b,i,h'⟩:=by
 unfold Zn
 obtain ⟨x,i,h',e,x0,x1,ok⟩:=Zi9 h
 rw [ZnA (by simp; omega),e]
 simp only [Zn4]
 have hr:rem? x n = some (x.tmod n):=by unfold rem?; rw [ZnA (by omega)]
 rw [hr]
 exact ⟨_,_,_,rfl,Int.tmod_nonneg _ x0,Int.tmod_lt_of_pos _ hn,ok⟩
theorem Zmx {code:List Byt} (hl:code.length ≤ 1048576) {n:Int} (h0:0 ≤ n):∃ i h,ZaH fuel code n = some ⟨code,i,h⟩ ∧ CurOk ⟨code,i,h⟩:=by
 have hnew:∃ h,Zal fuel code = some ⟨code,0,h⟩:=by
  unfold Zal
  have key:∃ r,iterN (fun (s1:Int × Int)=>
    if ((decide (s1.2 < (Go.GL.len code))) && (decide (s1.2 < 4000))) then
     (get? code s1.2).bind fun x1=>
     some (.inl ((band (w64 ((w64 ((w64 (s1.1 * 131)) + (w64 x1.n))) + 7)) 1073741823),(w64 (s1.2 + 1))))
    else
     some (.inr (s1.1))) fuel ((w64 (55127 + (Go.GL.len code))),0) = some r ∧ True:=by
   refine Zee (I:=fun k s=>s.2 = (k:Int)) (m:=min code.length 4000) (fun k s hk hs=>?_) (fun s hs=>?_) (min code.length 4000) 0 _ (by omega) rfl fuel (lt_fuel (by omega))
   ·obtain ⟨z, y⟩ := s
    simp only at hs
    subst hs
    simp only
    rw [ZnC (by rw [Za]; simp; omega),get?_nat,Zn5 (by omega)]
    exact ⟨_,rfl,by simp only; rw [Ze (by omega) (by omega)]; omega⟩
   ·obtain ⟨z, y⟩ := s
    simp only at hs
    subst hs
    simp only
    rw [ZnA (by rw [Za]; simp; omega)]
    exact ⟨_,rfl,trivial⟩
  obtain ⟨r,e,-⟩:=key
  rw [e]
  exact ⟨r,rfl⟩
 obtain ⟨h,e⟩:=hnew
 unfold ZaH
 rw [e]
 refine ⟨_,_,rfl,?_,hl⟩
 simp only
 unfold imin
 rw [Za]
 split <;> omega
end Go.Proofs.YthlolmkdppfioaaGreat.Cc
end
section
namespace Go.Proofs.YthlolmkdppfioaaGreat
open Go.GL
open Cc (CurOk Xw Zi9 Zmx FU)
set_option linter.unusedSimpArgs false
set_option maxRecDepth 100000
theorem itS5 {σt ρt:Type} {B:σt → Option (σt ⊕ ρt)} {s s':σt} {n:Nat} (h:B s = some (.inl s')):iterN B (n + 1) s = iterN B n s':=by
 rw [iterN,h]
theorem itE5 {σt ρt:Type} {B:σt → Option (σt ⊕ ρt)} {s:σt} {r:ρt} {n:Nat} (h:B s = some (.inr r)) (hn:0 < n):iterN B n s = some r:=by
 obtain ⟨n,rfl⟩ : ∃ k,n = k + 1:=⟨n - 1,by omega⟩
 rw [iterN,h]
theorem Zbm (b:Byt):(strOf [b]).bytes.length = 1:=by simp [strOf]
mutual
theorem Zi8:∀ t:D.Term,cnt t ≤ 1 + msz t
 | ⟨o,w,m,s,k⟩=>by rw [cnt,msz]; have:=Zg9 k; omega
theorem Zg9:∀ l:List D.Term,cnts l ≤ l.length + mszs l
 | []=>by rw [cnts]; omega
 | t :: l=>by rw [cnts,mszs]; have:=Zi8 t; have:=Zg9 l; simp only [ZnL]; omega
end
theorem ZdS {a b:Str} (h:a.bytes.length + b.bytes.length ≤ 1000):cat? a b = some ⟨a.bytes ++ b.bytes⟩:=by unfold cat?; rw [ZnC (by omega)]
theorem ZmQ {w:Int} (h0:0 ≤ w) (h1:w ≤ 99) {n:Nat} (hn:4 ≤ n):∃ s,YE n w = some s ∧ s.bytes.length ≤ 2:=by
 obtain ⟨n,rfl⟩ : ∃ j,n = j + 3:=⟨n - 3,by omega⟩
 rw [YE,ZnA (by simp; omega)]
 by_cases c:w ≤ 9
 ·rw [itE5 (r := (w, ⟨[]⟩)) (by simp only; rw [ZnA (by simp; omega)]) (by omega)]
  simp only [Zn4]
  rw [ZdS (by rw [Zbm]; simp)]
  exact ⟨_,rfl,by simp [Zbm]⟩
 ·have hr : rem? w 10 = some (w.tmod 10) := by unfold rem?; rw [ZnA (by decide)]
  have hq:quo? w 10 = some (w / 10):=by unfold quo?; rw [ZnA (by decide),Zq6 h0,Ze (by omega) (by omega)]
  rw [itS5 (s':=(w / 10,⟨(strOf [Byt.mk (IntKind.u8.wrap (w64 (48 + w.tmod 10)))]).bytes ++ []⟩)) (by
   simp only
   rw [ZnC (by simp; omega),hr]
   simp only [Zn4]
   rw [ZdS (by rw [Zbm]; simp)]
   simp only [Zn4]
   rw [hq]; rfl)]
  rw [itE5 (r:=(w / 10,⟨(strOf [Byt.mk (IntKind.u8.wrap (w64 (48 + w.tmod 10)))]).bytes ++ []⟩)) (by simp only; rw [ZnA (by simp; omega)]) (by omega)]
  simp only [Zn4]
  rw [ZdS (by simp [Zbm])]
  exact ⟨_,rfl,by simp [Zbm]⟩
def Drw (c:D.l01Cur) (w:Int) (B:Nat) (r:Option (D.Term × D.l01Cur)):Prop:=∃ t i h,r = some (t,⟨c.b,i,h⟩) ∧ CurOk ⟨c.b,i,h⟩ ∧ msz t ≤ B ∧ t.W = w
theorem once6 {c:D.l01Cur} (h:CurOk c) {n:Int} (hn:0 < n):∃ x i h',Yb c n = some (x,⟨c.b,i,h'⟩) ∧ CurOk ⟨c.b,i,h'⟩:=by
 unfold Yb
 obtain ⟨x,i,h',e,-,-,ok⟩:=Xw h hn
 rw [e]
 exact ⟨_,_,_,rfl,ok⟩
theorem ZgF {c:D.l01Cur} (h:CurOk c) {w:Int} (h1:1 ≤ w) (h2:w ≤ 16) {n:Nat} (hn:4 ≤ n):Drw c w 3 (YK n c w):=by
 unfold YK ZaO
 obtain ⟨x,i,h',e,x0,x1,ok⟩:=Xw h (n:=3) (by decide)
 rw [show len ([⟨[97]⟩,⟨[98]⟩,⟨[120]⟩]:List Str) = 3 from rfl,e]
 obtain ⟨k,rfl⟩:=Zql x0
 have hk:k < 3:=by omega
 obtain ⟨s,hs,hl⟩ : ∃ s:Str,get? ([⟨[97]⟩,⟨[98]⟩,⟨[120]⟩]:List Str) (k:Int) = some s ∧ s.bytes.length = 1:=by
  have:k = 0 ∨ k = 1 ∨ k = 2:=by omega
  rcases this with rfl | rfl | rfl <;> exact ⟨_,rfl,rfl⟩
 obtain ⟨f,hf,hfl⟩:=ZmQ (w:=w) (by omega) (by omega) hn
 simp only [Zn4,hs,hf]
 rw [ZdS (by omega)]
 exact ⟨_,_,_,rfl,ok,by rw [ZbK]; simp [YL]; omega,rfl⟩
theorem Zhb {c:D.l01Cur} (h:CurOk c) {w:Int} (h1:1 ≤ w) (h2:w ≤ 16):Drw c w 3 ((shl? 1 w).bind fun x2=>
  (Zn c x2).bind fun x3=>
  (Xa (D.l01Cur.mk c.b x3.2.i x3.2.h) ([0,1,(w64 ((x2) - 1)),x3.1]:List Int)).bind fun x4=>
  (YO w (band x4.1 (w64 ((x2) - 1)))).bind fun x5=>
  some ((D.Term.mk x5.Op x5.W x5.N x5.Name ([]:List D.Term)),(D.l01Cur.mk c.b x4.2.i x4.2.h))):=by
 obtain ⟨m,hm,-,-⟩:=Zi1 h1 h2
 have hm0:0 < m:=by
  unfold shl? at hm
  rw [ZnA (by omega),Option.some.injEq] at hm
  have:w = 1 ∨ w = 2 ∨ w = 3 ∨ w = 4 ∨ w = 5 ∨ w = 6 ∨ w = 7 ∨ w = 8 ∨ w = 9 ∨ w = 10 ∨ w = 11 ∨ w = 12 ∨ w = 13 ∨ w = 14 ∨ w = 15 ∨ w = 16:=by omega
  rcases this with rfl | rfl | rfl | rfl | rfl | rfl | rfl | rfl | rfl | rfl | rfl | rfl | rfl | rfl | rfl | rfl <;> (rw [← hm]; decide)
 rw [hm]
 simp only [Zn4]
 obtain ⟨x,i,h',e,x0,x1,ok⟩:=Xw h hm0
 rw [e]
 unfold Xa
 simp only [Zn4]
 obtain ⟨y,j,h2',e2,y0,y1,ok2⟩:=Xw ok (n:=4) (by decide)
 rw [show ∀ a b c d:Int,len ([a,b,c,d]:List Int) = 4 from fun _ _ _ _=>rfl,e2]
 obtain ⟨k,rfl⟩:=Zql y0
 obtain ⟨z,hz⟩ : ∃ z,get? ([0,1,w64 (m - 1),x]:List Int) (k:Int) = some z:=by
  have:k = 0 ∨ k = 1 ∨ k = 2 ∨ k = 3:=by omega
  rcases this with rfl | rfl | rfl | rfl <;> exact ⟨_,rfl⟩
 simp only [Zn4,hz,YO]
 exact ⟨_,_,_,rfl,ok2,by rw [ZbK]; simp [YL],rfl⟩
theorem Drw.le {c:D.l01Cur} {w:Int} {B B':Nat} {r:Option (D.Term × D.l01Cur)} (h:Drw c w B r) (hB:B ≤ B'):Drw c w B' r:=by
 obtain ⟨t,i,h',e,ok,hs,hW⟩:=h
 exact ⟨t,i,h',e,ok,by omega,hW⟩
theorem Xh {op w m:Int} {ks:List D.Term}:msz ⟨op,w,m,⟨[]⟩,ks⟩ = ks.length + mszs ks:=by rw [msz]; simp
theorem Zdv {c:D.l01Cur} (h:CurOk c) {w:Int} (h1:1 ≤ w) (h2:w ≤ 16) {n:Nat} (hn:4 ≤ n):Drw c w 3 ((Yb c 3).bind fun x1=>
   if x1.1 then
    (shl? 1 w).bind fun x2=>
    (Zn (D.l01Cur.mk c.b x1.2.i x1.2.h) x2).bind fun x3=>
    (Xa (D.l01Cur.mk c.b x3.2.i x3.2.h) ([0,1,(w64 ((x2) - 1)),x3.1]:List Int)).bind fun x4=>
    (YO w (band x4.1 (w64 ((x2) - 1)))).bind fun x5=>
    some ((D.Term.mk x5.Op x5.W x5.N x5.Name ([]:List D.Term)),(D.l01Cur.mk c.b x4.2.i x4.2.h))
   else
    (YK n (D.l01Cur.mk c.b x1.2.i x1.2.h) w).bind fun x6=>
    some (x6.1,(D.l01Cur.mk c.b x6.2.i x6.2.h))):=by
  obtain ⟨x,i,h',e,ok⟩:=once6 h (n:=3) (by decide)
  rw [e]
  simp only [Zn4]
  cases x
  · rw [ZnA (by decide)]
    obtain ⟨t,j,hh,e2,ok2,hs,hW⟩:=ZgF ok h1 h2 hn
    rw [e2]
    exact ⟨t,j,hh,rfl,ok2,hs,hW⟩
  · rw [ZnC rfl]
    exact Zhb ok h1 h2
theorem Zjw:∀ (d:Nat) (n:Nat) (c:D.l01Cur) (w most:Int),d + 10 ≤ n → CurOk c → 1 ≤ w → w + 2 * d ≤ 16 → most ≤ d → Drw c w (5 * 3 ^ d - 2) (Zk n c w most):=by
 intro d
 induction d with
 | zero=>
  intro n c w most hn h h1 h2 hm
  obtain ⟨n,rfl⟩ : ∃ j,n = j + 1:=⟨n - 1,by omega⟩
  rw [Zk,ZnC (by simp; omega),ZnC rfl]
  exact (Zdv h h1 (by omega) (by omega)).le (by omega)
 | succ d ih=>
  intro n c w most hn h h1 h2 hm
  obtain ⟨n,rfl⟩ : ∃ j,n = j + 1:=⟨n - 1,by omega⟩
  have h3:0 < 3 ^ d:=Nat.pow_pos (by decide)
  have hB:5 * 3 ^ (d + 1) - 2 = 3 * (5 * 3 ^ d - 2) + 4:=by rw [Zpv]; omega
  have hB1:3 ≤ 5 * 3 ^ d - 2:=by omega
  rw [hB]
  generalize 5 * 3 ^ d - 2 = B at ih hB1 ⊢
  rw [Zk]
  by_cases c0:most < 1
  ·rw [ZnC (by simpa using c0), ZnC rfl]
   exact (Zdv h h1 (by omega) (by omega)).le (by omega)
  rw [ZnA (by simpa using c0)]
  obtain ⟨x,i,h',e,ok⟩:=once6 h (n:=6) (by decide)
  rw [e]
  simp only [Zn4]
  cases x
  ·rw [ZnA (by decide)]
   obtain ⟨x,i2,h2',e2,x0,x1,ok2⟩:=Xw ok (n:=21) (by decide)
   rw [e2]
   simp only [Zn4,ZbC]
   have hx:w64 (1 + x) = 1 + x:=Ze (by omega) (by omega)
   have hmo:w64 (most - 1) = most - 1 ∨ True:=.inr trivial
   have hm1:w64 (most - 1) ≤ d:=by
    by_cases q:most ≤ 9223372036854775807
    ·rw [Ze (by omega) (by omega)]; omega
    ·omega
   rw [hx]
   by_cases c1:14 ≤ 1 + x ∧ 1 + x ≤ 16
   ·rw [ZnC (by simpa using c1)]
    obtain ⟨v,i3,h3',e3,v0,v1,ok3⟩:=Xw ok2 (n:=4) (by decide)
    rw [e3]
    have hv:w64 (1 + v) = 1 + v:=Ze (by omega) (by omega)
    simp only [Zn4,hv]
    obtain ⟨t1,i4,h4',e4,ok4,s4,-⟩:=ih n ⟨c.b,i3,h3'⟩ (1 + v) (w64 (most - 1)) (by omega) ok3 (by omega) (by omega) hm1
    rw [e4]
    simp only [Zn4]
    obtain ⟨t2,i5,h5',e5,ok5,s5,-⟩:=ih n ⟨c.b,i4,h4'⟩ (1 + v) (w64 (most - 1)) (by omega) ok4 (by omega) (by omega) hm1
    rw [e5]
    simp only [Zn4]
    obtain ⟨y,i6,h6',e6,ok6⟩:=once6 ok5 (n:=6) (by decide)
    rw [e6]
    simp only [Zn4]
    cases y
    ·rw [ZnA (by decide)]
     split
     ·exact ⟨_,_,_,rfl,ok6,by simp only [Xh,Y1,YL,ZnL,Zom]; omega,rfl⟩
     ·rename_i hw0
      have hw0:¬ w > 1:=by simpa using hw0
      exact ⟨_,_,_,rfl,ok6,by simp only [Xh,Y1,YL,ZnL,Zom]; omega,by show (1:Int) = w; omega⟩
    ·rw [ZnC rfl, show get? ([t1, t2] : List D.Term) 0 = some t1 from rfl]
     simp only [Zn4]
     rw [show set? ([t1,t2]:List D.Term) 1 t1 = some [t1,t1] from rfl]
     simp only [Zn4]
     split
     ·exact ⟨_,_,_,rfl,ok6,by simp only [Xh,Y1,YL,ZnL,Zom]; omega,rfl⟩
     ·rename_i hw0
      have hw0:¬ w > 1:=by simpa using hw0
      exact ⟨_,_,_,rfl,ok6,by simp only [Xh,Y1,YL,ZnL,Zom]; omega,by show (1:Int) = w; omega⟩
   rw [ZnA (by simpa using c1)]
   by_cases c2:3 ≤ 1 + x ∧ 1 + x ≤ 13
   ·rw [ZnC (by simpa using c2)]
    obtain ⟨t1,i4,h4',e4,ok4,s4,-⟩:=ih n ⟨c.b,i2,h2'⟩ w (w64 (most - 1)) (by omega) ok2 h1 (by omega) hm1
    rw [e4]
    simp only [Zn4]
    obtain ⟨t2,i5,h5',e5,ok5,s5,-⟩:=ih n ⟨c.b,i4,h4'⟩ w (w64 (most - 1)) (by omega) ok4 h1 (by omega) hm1
    rw [e5]
    simp only [Zn4]
    obtain ⟨y,i6,h6',e6,ok6⟩:=once6 ok5 (n:=8) (by decide)
    rw [e6]
    simp only [Zn4]
    cases y
    ·rw [ZnA (by decide)]
     exact ⟨_,_,_,rfl,ok6,by simp only [Xh,Y1,YL,ZnL,Zom]; omega,rfl⟩
    ·rw [ZnC rfl, show get? ([t1, t2] : List D.Term) 0 = some t1 from rfl]
     simp only [Zn4]
     rw [show set? ([t1,t2]:List D.Term) 1 t1 = some [t1,t1] from rfl]
     exact ⟨_,_,_,rfl,ok6,by simp only [Xh,Y1,YL,ZnL,Zom]; omega,rfl⟩
   rw [ZnA (by simpa using c2)]
   by_cases c3:1 + x ≤ 2
   ·rw [ZnC (by simpa using c3)]
    obtain ⟨t1,i4,h4',e4,ok4,s4,-⟩:=ih n ⟨c.b,i2,h2'⟩ w (w64 (most - 1)) (by omega) ok2 h1 (by omega) hm1
    rw [e4]
    exact ⟨_,_,_,rfl,ok4,by simp only [Xh,Y1,YL,ZnL,Zom]; omega,rfl⟩
   rw [ZnA (by simpa using c3)]
   by_cases c4:1 + x = 17
   ·rw [ZnC (by simpa using c4)]
    obtain ⟨t1,i4,h4',e4,ok4,s4,-⟩:=ih n ⟨c.b,i2,h2'⟩ 1 (w64 (most - 1)) (by omega) ok2 (by omega) (by omega) hm1
    rw [e4]
    simp only [Zn4]
    obtain ⟨t2,i5,h5',e5,ok5,s5,-⟩:=ih n ⟨c.b,i4,h4'⟩ w (w64 (most - 1)) (by omega) ok4 h1 (by omega) hm1
    rw [e5]
    simp only [Zn4]
    obtain ⟨t3,i6,h6',e6,ok6,s6,-⟩:=ih n ⟨c.b,i5,h5'⟩ w (w64 (most - 1)) (by omega) ok5 h1 (by omega) hm1
    rw [e6]
    exact ⟨_,_,_,rfl,ok6,by simp only [Xh,Y1,YL,ZnL,Zom]; omega,rfl⟩
   rw [ZnA (by simpa using c4)]
   by_cases c5:1 + x = 18 ∧ w > 1
   ·rw [ZnC (by simpa using c5)]
    have hw1:w64 (w - 1) = w - 1:=Ze (by omega) (by omega)
    rw [hw1]
    obtain ⟨v,i3,h3',e3,v0,v1,ok3⟩:=Xw ok2 (n:=w - 1) (by omega)
    rw [e3]
    have hv:w64 (1 + v) = 1 + v:=Ze (by omega) (by omega)
    have hv2:w64 (w - (1 + v)) = w - (1 + v):=Ze (by omega) (by omega)
    simp only [Zn4,hv,hv2]
    obtain ⟨t1,i4,h4',e4,ok4,s4,-⟩:=ih n ⟨c.b,i3,h3'⟩ (w - (1 + v)) (w64 (most - 1)) (by omega) ok3 (by omega) (by omega) hm1
    rw [e4]
    simp only [Zn4]
    obtain ⟨t2,i5,h5',e5,ok5,s5,-⟩:=ih n ⟨c.b,i4,h4'⟩ (1 + v) (w64 (most - 1)) (by omega) ok4 (by omega) (by omega) hm1
    rw [e5]
    exact ⟨_,_,_,rfl,ok5,by simp only [Xh,Y1,YL,ZnL,Zom]; omega,rfl⟩
   rw [ZnA (by simpa using c5)]
   by_cases c6:1 + x = 19
   ·rw [ZnC (by simpa using c6)]
    obtain ⟨v,i3,h3',e3,v0,v1,ok3⟩:=Xw ok2 (n:=3) (by decide)
    rw [e3]
    have hv:w64 (w + v) = w + v:=Ze (by omega) (by omega)
    have hv2:w64 (w + v - w) = v:=by rw [Ze (by omega) (by omega)]; omega
    have hv3:w64 (v + 1) = v + 1:=Ze (by omega) (by omega)
    simp only [Zn4,hv,hv2,hv3]
    obtain ⟨u,i4,h4',e4,u0,u1,ok4⟩:=Xw ok3 (n:=v + 1) (by omega)
    rw [e4]
    simp only [Zn4]
    obtain ⟨t1,i5,h5',e5,ok5,s5,-⟩:=ih n ⟨c.b,i4,h4'⟩ (w + v) (w64 (most - 1)) (by omega) ok4 (by omega) (by omega) hm1
    rw [e5]
    exact ⟨_,_,_,rfl,ok5,by simp only [Xh,Y1,YL,ZnL,Zom]; omega,rfl⟩
   rw [ZnA (by simpa using c6)]
   by_cases c7:20 ≤ 1 + x ∧ 1 + x ≤ 21
   ·rw [ZnC (by simpa using c7)]
    obtain ⟨v,i3,h3',e3,v0,v1,ok3⟩:=Xw ok2 (n:=w) (by omega)
    rw [e3]
    have hv:w64 (1 + v) = 1 + v:=Ze (by omega) (by omega)
    simp only [Zn4,hv]
    obtain ⟨t1,i5,h5',e5,ok5,s5,-⟩:=ih n ⟨c.b,i3,h3'⟩ (1 + v) (w64 (most - 1)) (by omega) ok3 (by omega) (by omega) hm1
    rw [e5]
    exact ⟨_,_,_,rfl,ok5,by simp only [Xh,Y1,YL,ZnL,Zom]; omega,rfl⟩
   rw [ZnA (by simpa using c7)]
   obtain ⟨t,j,hh,e4,ok4,hs,hW⟩:=ZgF ok2 (w:=w) h1 (by omega) (n:=n) (by omega)
   rw [e4]
   exact ⟨t,j,hh,rfl,ok4,by omega,hW⟩
  ·rw [ZnC rfl]
   exact (Zdv ok h1 (by omega) (by omega)).le (by omega)
theorem ZjB {fuel:Nat} [FU fuel] {code:List Byt} (hl:code.length ≤ 1048576) {m w:Int} (h0:0 ≤ m) (h1:1 ≤ w) (d:Nat) (h2:w + 2 * d ≤ 16):∃ t,XE fuel code m w (d:Int) = some t ∧ msz t ≤ 5 * 3 ^ d - 2 ∧ t.W = w:=by
 unfold XE
 obtain ⟨i,h,e,ok⟩:=Zmx (fuel:=fuel) hl h0
 rw [e]
 have hf:d + 10 ≤ fuel:=by have:=(inferInstance:FU fuel).le; omega
 obtain ⟨t,j,hh,e2,-,hs,hW⟩:=Zjw d fuel ⟨code,i,h⟩ w d hf ok h1 h2 (ZoD _)
 simp only [Zn4]
 rw [e2]
 exact ⟨t,rfl,hs,hW⟩
open Cc (vB ZU bi)
theorem ZcM {σt ρt:Type} {B:σt → Option (σt ⊕ ρt)} {I:Nat → σt → Prop} {m:Nat} {R:ρt → Prop} (hs:∀ k s,k < m → I k s → (∃ s',B s = some (.inl s') ∧ I (k + 1) s') ∨ ∃ r,B s = some (.inr r) ∧ R r) (hf:∀ s,I m s → ∃ r,B s = some (.inr r) ∧ R r) :
  ∀ (d k:Nat) (s:σt),k + d = m → I k s → ∀ n,d < n → ∃ r,iterN B n s = some r ∧ R r
 | 0,k,s,hk,hi,n,hn=>by
  obtain ⟨n,rfl⟩ : ∃ j,n = j + 1:=⟨n - 1,by omega⟩
  obtain rfl:k = m:=by omega
  obtain ⟨r,h1,h2⟩:=hf s hi
  exact ⟨r,by unfold iterN; rw [h1],h2⟩
 | d + 1,k,s,hk,hi,n,hn=>by
  obtain ⟨n,rfl⟩ : ∃ j,n = j + 1:=⟨n - 1,by omega⟩
  rcases hs k s (by omega) hi with ⟨s',h1,h2⟩ | ⟨r,h1,h2⟩
  ·obtain ⟨r, h3, h4⟩ := ZcM hs hf d (k + 1) s' (by omega) h2 n (by omega)
   exact ⟨r,by unfold iterN; rw [h1]; exact h3,h4⟩
  ·exact ⟨r,by unfold iterN; rw [h1],h2⟩
def num (l:List D.Value):Nat:=vB (inB l).reverse
theorem Zim (a b:List D.Value):inB (a ++ b) = inB a ++ inB b:=by unfold inB; rw [List.flatMap_append]
theorem ZaL (a b:List D.Value):num (a ++ b) = num a * 2 ^ (inB b).length + num b:=by
 unfold num
 rw [Zim,ZpT,Cc.vB_app,Zpi,Zo1]; omega
theorem Zl2 (x:D.Value):(inB [x]).reverse = (List.range x.W.toNat).map (bitI x.N):=by
 unfold inB; simp [← List.map_reverse]
theorem ZdX (x:D.Value):(inB [x]).length = x.W.toNat:=by unfold inB; simp
theorem Zde {x:D.Value} (hw:x.W ≤ 16) (h0:0 ≤ x.N) (h1:x.N < 2 ^ x.W.toNat):(num [x]:Int) = x.N:=by
 unfold num
 rw [Zl2]
 exact ZeI (by omega) h0 h1
theorem ZhB (l:List D.Value):num l < 2 ^ (inB l).length:=by
 have:=ZU (inB l).reverse
 rwa [Zpi] at this
theorem Zcs:∀ {l l':List D.Value},l.map ky = l'.map ky → (inB l).length = (inB l').length
 | [],[],_=>rfl
 | x :: l,y :: l',h=>by
  simp only [ZnE,List.cons.injEq,ky,Prod.mk.injEq] at h
  rw [ZbV,ZbV,ZnD,ZnD,Zcs h.2]
  simp [h.1.2]
theorem ZlB {l l':List D.Value} (h:l.map ky = l'.map ky) (e:num l = num l'):inB l = inB l':=by
 have h1:=Zcs h
 have:=Cc.vB_inj (a:=(inB l).reverse) (b:=(inB l').reverse) (by simpa using h1) e
 exact List.reverse_inj.1 this
def zN (v:D.Value):D.Value:=⟨v.Name,v.W,0⟩
theorem ZmM (l:List D.Value):(l.map zN).map ky = l.map ky:=by rw [ZoG]; rfl
theorem ZkW:∀ l:List D.Value,(∀ v ∈ l,1 ≤ v.W ∧ v.W ≤ 16) → num (l.map zN) = 0
 | [],_=>by simp [num,inB,vB]
 | v :: l,h=>by
  have hv:=h v (by simp)
  have ih:=ZkW l fun x hx=>h x (by simp [hx])
  have hp:=ZoT v.W.toNat
  rw [ZnE,show zN v :: l.map zN = [zN v] ++ l.map zN from rfl,ZaL,ih]
  have:=Zde (x:=zN v) hv.2 (ZoD _) (by show (0:Int) < 2 ^ v.W.toNat; rw [cpow]; omega)
  have:num [zN v] = 0:=by have h0:(zN v).N = 0:=rfl; omega
  rw [this]; simp
def mx (v:D.Value):Prop:=v.N = 2 ^ v.W.toNat - 1
theorem Zhg:∀ l:List D.Value,(∀ v ∈ l,(1 ≤ v.W ∧ v.W ≤ 16) ∧ mx v) → num l + 1 = 2 ^ (inB l).length
 | [],_=>rfl
 | v :: l,h=>by
  obtain ⟨hv,hm⟩:=h v (by simp)
  have ih:=Zhg l fun x hx=>h x (by simp [hx])
  have hp:=ZoT v.W.toNat
  unfold mx at hm
  rw [cpow] at hm
  have h1:=Zde (x:=v) hv.2 (by omega) (by rw [cpow]; omega)
  rw [show v :: l = [v] ++ l from rfl,ZaL,Zim,ZnD,ZdX,ZpU]
  have h2:num [v] + 1 = 2 ^ v.W.toNat:=by omega
  rw [← h2,Zpn,ZpG,← ih]; omega
theorem Vls.len {L l:List D.Value} (h:Vls L l):l.length = L.length:=by
 have:=congrArg List.length h.ky
 rwa [Zog,Zog] at this
theorem Vls.wid {L l:List D.Value} (h:Vls L l) (hw:∀ v ∈ L,1 ≤ v.W ∧ v.W ≤ 16):∀ v ∈ l,1 ≤ v.W ∧ v.W ≤ 16:=fun v hv=>by
 obtain ⟨z,hz,-,z2⟩:=ZhV h.ky hv
 have:=hw z hz
 omega
theorem Zmm {L l:List D.Value} (h:Vls L l) (hw:∀ v ∈ L,1 ≤ v.W ∧ v.W ≤ 16) (h30:L.length ≤ 1000):∃ b l',X3 fuel l = some (b,l') ∧ (b = true → Vls L l' ∧ num l' = num l + 1) ∧ (b = false → num l + 1 = 2 ^ (inB l).length):=by
  have hll:=h.len
  have hwl:=h.wid hw
  unfold X3
  obtain ⟨r,g1,g2⟩:=ZcM (B:=fun (s1:Int × (List D.Value))=>
    if (decide (s1.1 ≥ 0)) then
     (get? s1.2 s1.1).bind fun x1=>
     (get? s1.2 s1.1).bind fun x2=>
     (shl? 1 x2.W).bind fun x3=>
     if (decide (x1.N < (w64 (x3 - 1)))) then
      (get? s1.2 s1.1).bind fun x4=>
      (get? s1.2 s1.1).bind fun x5=>
      (set? s1.2 s1.1 ({ x5 with N:=(w64 (x4.N + 1)) }:D.Value)).bind fun x6=>
      some (.inr (.inr (true,x6)))
     else
      (get? s1.2 s1.1).bind fun x7=>
      (set? s1.2 s1.1 ({ x7 with N:=0 }:D.Value)).bind fun x8=>
      some (.inl ((w64 (s1.1 - 1)),x8))
    else
     some (.inr (.inl (s1.2))))
    (I:=fun k s=>s = ((l.length:Int) - 1 - (k:Int),l.take (l.length - k) ++ (l.drop (l.length - k)).map zN) ∧ ∀ v ∈ l.drop (l.length - k),mx v) (m:=l.length)
    (R:=fun (r:List D.Value ⊕ (Bool × List D.Value))=>(∃ l',r = .inr (true,l') ∧ Vls L l' ∧ num l' = num l + 1) ∨ ∃ l',r = .inl l' ∧ num l + 1 = 2 ^ (inB l).length)
    (fun k s hk ⟨hs,hm⟩=>by
      subst hs
      generalize hj:l.length - k - 1 = j at *
      have hjl:j < l.length:=by omega
      have ej:l.length - k = j + 1:=by omega
      rw [ej] at hm ⊢
      have hsp:l.take (j + 1) ++ (l.drop (j + 1)).map zN = l.take j ++ (l[j] :: (l.drop (j + 1)).map zN):=by
        rw [ZnG hjl,Zoh]; rfl
      have hspl:l = l.take j ++ ([l[j]] ++ l.drop (j + 1)):=by
        have:=(Zo0 j l).symm
        rwa [Zoj hjl] at this
      have hd:(l.length:Int) - 1 - (k:Int) = (j:Int):=by omega
      have hx:l[j] ∈ l:=Zoq hjl
      have hxw:=hwl _ hx
      have hxn:=h.word _ hx
      obtain ⟨a1,_,a3,_,a5⟩:=ZbY hxw.1 hxw.2
      have htl:(l.take j).length = j:=by rw [ZnF]; omega
      have hget:get? (l.take j ++ (l[j] :: (l.drop (j + 1)).map zN)) (j:Int) = some l[j]:=by
        rw [get?_nat,ZnH (by omega),htl,ZoR]; rfl
      have hset:∀ y:D.Value,set? (l.take j ++ (l[j] :: (l.drop (j + 1)).map zN)) (j:Int) y = some (l.take j ++ (y :: (l.drop (j + 1)).map zN)):=fun y=>by
        have hln:j < (l.take j ++ (l[j] :: (l.drop (j + 1)).map zN)).length:=by simp; omega
        unfold set?
        rw [ZnC ⟨by omega,by omega⟩,Zoo,ZoL _ _ (by omega),htl,ZoR]; rfl
      simp only
      rw [hd,hsp,ZnC (by simp),hget]
      simp only [Zn4,a1]
      rw [a3]
      have hpost:num (l.drop (j + 1)) + 1 = 2 ^ (inB (l.drop (j + 1))).length:=Zhg _ fun v hv=>⟨hwl v (ZoH hv),hm v hv⟩
      have hzl:(inB ((l.drop (j + 1)).map zN)).length = (inB (l.drop (j + 1))).length:=Zcs (ZmM _)
      have hz0:num ((l.drop (j + 1)).map zN) = 0:=ZkW _ fun v hv=>hwl v (ZoH hv)
      have hnl:num l = (num (l.take j) * 2 ^ l[j].W.toNat + num [l[j]]) * 2 ^ (inB (l.drop (j + 1))).length + num (l.drop (j + 1)):=by
        conv=>lhs; rw [hspl]
        rw [← Zoh,ZaL,ZaL,ZdX]
      have h1:=Zde (x:=l[j]) hxw.2 hxn.1 hxn.2
      by_cases c:l[j].N < 2 ^ l[j].W.toNat - 1
      · refine .inr ⟨_, by rw [ZnC (by simpa using c), hset]; rfl, .inl ⟨_, rfl, ⟨?_, ?_⟩, ?_⟩⟩
        · rw [← h.ky]
          conv=>rhs; rw [hspl]
          simp only [Zo2,ZnE,Zoy,ZmM]
          rfl
        · intro y hy
          rcases ZnS.1 hy with hy | hy
          · exact h.word y (ZoV hy)
          rcases Zof.1 hy with rfl | hy
          · simp only
            rw [Ze (by omega) (by omega)]
            omega
          · obtain ⟨z, hz, rfl⟩ := ZoB.1 hy
            have hzw:=hwl z (ZoH hz)
            exact ⟨ZoD _,by show (0:Int) < 2 ^ z.W.toNat; rw [cpow]; have:=ZoT z.W.toNat; omega⟩
        · rw [show l.take j ++ ((⟨l[j].Name, l[j].W, w64 (l[j].N + 1)⟩ : D.Value) :: (l.drop (j + 1)).map zN) = (l.take j ++ [(⟨l[j].Name, l[j].W, w64 (l[j].N + 1)⟩ : D.Value)]) ++ (l.drop (j + 1)).map zN by simp, ZaL, ZaL, hz0, hzl, ZdX, hnl]
          have h2:=Zde (x:=(⟨l[j].Name,l[j].W,w64 (l[j].N + 1)⟩ : D.Value)) hxw.2 (by simp only; rw [Ze (by omega) (by omega)]; omega) (by simp only; rw [Ze (by omega) (by omega)]; omega)
          simp only at h2 ⊢
          rw [Ze (by omega) (by omega)] at h2 ⊢
          have h3:num [(⟨l[j].Name,l[j].W,l[j].N + 1⟩ : D.Value)] = num [l[j]] + 1:=by omega
          rw [h3,← hpost,← Zro,Zpn _ 1]
          omega
      · refine .inl ⟨_, by rw [ZnA (by simpa using c), hset]; rfl, ?_, ?_⟩
        · skip
          rw [Ze (by omega) (by omega),Zoj hjl,ZnE,show (j:Int) - 1 = (l.length:Int) - 1 - ((k + 1:Nat):Int) by omega]
          rfl
        · skip
          rw [Zoj hjl]
          intro v hv
          rcases Zof.1 hv with rfl | hv
          · unfold mx; omega
          · exact hm v hv)
    (fun s ⟨hs,hm⟩=>by
      subst hs
      simp only
      rw [ZnA (by simp; omega)]
      rw [ZoR,Zpu] at hm
      exact ⟨_,rfl,.inr ⟨_,rfl,Zhg l fun v hv=>⟨hwl v hv,hm v hv⟩⟩⟩) l.length 0 (w64 (len l - 1),l) (by omega) ⟨by rw [Za,Ze (by omega) (by omega)]; simp,by simp⟩ fuel (lt_fuel (by omega))
  rw [g1]
  rcases g2 with ⟨l',rfl,h1,h2⟩ | ⟨l',rfl,h1⟩
  · exact ⟨true,l',rfl,fun _=>⟨h1,h2⟩,fun h=>(by cases h)⟩
  · exact ⟨false,l',rfl,fun h=>(by cases h),fun _=>h1⟩
def val (t:D.Term) (l:List D.Value):Int:=((ZZ fuel t l).getD (0,false)).1
structure TblOk (t:D.Term) (L:List D.Value) (T:List Int):Prop where
 len:T.length = 2 ^ (inB L).length
 get:∀ i,i < T.length → ∃ l,Vls L l ∧ num l = i ∧ T[i]? = some (val t l)
theorem ZeC {t:D.Term} (h:termB t = true):cnt t ≤ 240 ∧ nodeB t = true:=by
 unfold termB at h
 simp only [ZnB,ZnO] at h
 exact h.1
theorem Zer {t:D.Term} {L l:List D.Value} (ht:termB t = true) (hL:VL t L) (hw:∀ v ∈ L,1 ≤ v.W ∧ v.W ≤ 16) (h30:L.length ≤ 30) (h:Vls L l) {E:List Bool} (hE:[true] ++ inB l <+: E):ZZ fuel t l = some (val t l,true) ∧ val t l = (vB (tB L E t):Int):=by
 obtain ⟨hc,hn⟩:=ZeC ht
 have e:=(ZfN (vs:=L) (l:=l) (E:=E) (by rw [h.len]; exact h30) (cnt t) t (ZnK _) hn (ZjP hL hw h hE) fuel (by unfold fuel; omega)).1
 have hv:val t l = (vB (tB L E t):Int):=by unfold val; rw [e]; rfl
 exact ⟨by rw [hv]; exact e,hv⟩
theorem ZkQ (L:List D.Value):Vls L (L.map zN):=⟨ZmM L,fun x hx=>by
 obtain ⟨v,hv,rfl⟩:=ZoB.1 hx
 exact ⟨ZoD _,by show (0:Int) < 2 ^ v.W.toNat; rw [cpow]; have:=ZoT v.W.toNat; omega⟩⟩
theorem ZjO {t:D.Term} (hs:msz t ≤ 1048576) (ht:termB t = true) {L:List D.Value} (e:ZA fuel t = some L) (hL:VL t L) (hw:∀ v ∈ L,1 ≤ v.W ∧ v.W ≤ 16) (h1000:L.length ≤ 1000) (hz:∀ v ∈ L,v.N = 0):∃ T,YZ fuel t = some T ∧ ((bitsV L 0 > 10 ∧ T = []) ∨ bitsV L 0 ≤ 10 ∧ L.length ≤ 10 ∧ TblOk t L T):=by
  unfold YZ
  rw [e,Zck hs,ht]
  simp only [Zn4,ZnY,Zn6,ZnI,Zo4]
  rw [Zjx h1000 hw]
  simp only [Zn4]
  by_cases c:bitsV L 0 > 10
  · rw [ZnC (by simpa using c)]
    exact ⟨[],rfl,.inl ⟨c,rfl⟩⟩
  rw [ZnA (by simpa using c)]
  have h10:L.length ≤ 10:=by
    have:∀ (M:List D.Value) (a:Int),(∀ v ∈ M,1 ≤ v.W ∧ v.W ≤ 16) → a + (M.length:Int) ≤ bitsV M a:=by
      intro M
      induction M with
      | nil=>intro a _; simp [bitsV]
      | cons v M ih =>
        intro a hM
        have:=ih (a + v.W) (fun y hy=>hM y (by simp [hy]))
        have:=(hM v (by simp)).1
        rw [Zbt,ZnL]
        omega
    have:=this L 0 hw
    omega
  have hil:=ZdO (L:=L) (l:=L) rfl hw
  have hnb:(inB L).length ≤ 10:=by omega
  have hpw:2 ^ (inB L).length ≤ 2 ^ 10:=Zo3 (by decide) hnb
  have hpp:=ZoT (inB L).length
  have hLz:L = L.map zN:=by
    conv=>lhs; rw [← List.map_id L]
    refine ZoS fun v hv=>?_
    have:=hz v hv
    cases v; simp only at this; subst this; rfl
  have hL0:Vls L L:=by
    have:=ZkQ L
    rwa [← hLz] at this
  have hn0:num L = 0:=by
    have:=ZkW L hw
    rwa [← hLz] at this
  obtain ⟨r,g1,g2⟩:=ZcM (B:=fun (s1:(List D.Value) × (List Int))=>
     (ZZ fuel t s1.1).bind fun x4=>
     (app? s1.2 ([x4.1]:List Int)).bind fun x5=>
     (X3 fuel s1.1).bind fun x6=>
     if (!x6.1) then
      some (.inr (.inr x5))
     else
      some (.inl (x6.2,x5)))
    (I:=fun k s=>Vls L s.1 ∧ num s.1 = k ∧ s.2.length = k ∧ ∀ i,i < k → ∃ l,Vls L l ∧ num l = i ∧ s.2[i]? = some (val t l)) (m:=2 ^ (inB L).length)
    (R:=fun (r:((List Int) × (List D.Value) × (List Int)) ⊕ (List Int))=>∃ T,r = .inr T ∧ TblOk t L T)
    (fun k s hk ⟨h1,h2,h3,h4⟩=>by
      obtain ⟨l,out⟩:=s
      simp only at h1 h2 h3 h4 ⊢
      rw [(Zer ht hL hw (by omega) h1 (ZpE _)).1]
      simp only [Zn4]
      rw [Zig (by simp; omega)]
      obtain ⟨b,l',e6,t1,t2⟩:=Zmm h1 hw h1000
      simp only [Zn4]
      rw [e6]
      have hget':∀ i,i < k + 1 → ∃ l2,Vls L l2 ∧ num l2 = i ∧ (out ++ [val t l])[i]? = some (val t l2):=by
        intro i hi
        by_cases ci:i < k
        · obtain ⟨l2, q1, q2, q3⟩ := h4 i ci
          exact ⟨l2,q1,q2,by rw [ZnJ (by omega)]; exact q3⟩
        · have : i = k := by omega
          subst this
          exact ⟨l,h1,h2,by rw [ZnH (by omega),h3,ZoR]; rfl⟩
      cases b
      · have hlast := t2 rfl
        rw [h2,Zcs h1.ky] at hlast
        refine .inr ⟨_,rfl,_,rfl,⟨by simp [h3,hlast],fun i hi=>hget' i (by simp [h3] at hi; omega)⟩⟩
      · obtain ⟨q1, q2⟩ := t1 rfl
        exact .inl ⟨_,rfl,q1,by simp only; rw [q2,h2],by simp [h3],hget'⟩)
    (fun s ⟨h1,h2,h3,h4⟩=>by
      have:=ZhB s.1
      rw [Zcs h1.ky] at this
      omega) (2 ^ (inB L).length) 0 (L,[]) (by omega) ⟨hL0,hn0,rfl,fun i hi=>by omega⟩ fuel (lt_fuel (by omega))
  rw [g1]
  obtain ⟨T,rfl,hT⟩:=g2
  exact ⟨T,rfl,.inr ⟨by omega,h10,hT⟩⟩
open Cc (BS LS CircP Grow litN lines litN_iff litV ev vB ZU bi)
theorem ZdY (w:List Bool) (x:Int):litV w x = Sv.tr (Sv.vm w) x:=by
 have ia:Cc.iab x = (x.natAbs:Int):=by unfold Cc.iab; split <;> omega
 unfold litV Sv.tr Sv.vm
 rw [ia,Zn8,show ((x.natAbs:Int) - 1).toNat = x.natAbs - 1 by omega]
theorem Zet:∀ (gs:List D.Gate) (w:List Bool),gs.foldl Cc.stepV w = Sv.evalG gs w
 | [],_=>rfl
 | g :: gs,w=>by rw [Zo5,Sv.evalG,Zet gs]; unfold Cc.stepV; rw [ZdY,ZdY]
theorem Zmt (c:D.Circuit) (v:List Bool):ev c v = Sv.evalG c.Gates (true :: v):=by
 unfold ev Cc.outV'
 rw [Zou,Zet]; rfl
theorem Zii:∀ (l:List Bool),l.length ≤ 16 → wrd l.reverse = (vB l:Int)
 | [],_=>rfl
 | b :: l,h=>by
  rw [ZnL] at h
  have hv:=ZU l
  have hp:=(p16 (w:=l.length) (by omega)).1
  have hb:bit b = (bi b:Int):=by cases b <;> rfl
  have hb1:=Cc.bi_le b
  rw [List.reverse_cons,Zgr,Zii l (by omega),hb,vB,YJ (a:=2 * (vB l:Int)) (by omega) (by omega),YJ (by omega) (by omega)]
  omega
theorem ZlT (l:List Bool) (h:l.length ≤ 16):wrd l = (vB l.reverse:Int):=by
 have:=Zii l.reverse (by simpa using h)
 rwa [List.reverse_reverse] at this
theorem Zjm {m:List Bool} {w:Nat} (h:m.length = w) (hw:w ≤ 16):(List.range w).map (bitI (vB m:Int)) = m:=by
 have hv:=ZU m
 rw [h] at hv
 have hp:=(p16 hw).1
 refine ZpQ (by simp [h]) fun i h1 h2=>?_
 simp only [ZpR,Zqi]
 rw [Zgi (by omega) i (by omega),Zar,Zn8,Zn5 h2]; rfl
theorem Zi5 {w:List Bool}:∀ (L:List D.Value) (off:Nat),(∀ v ∈ L,1 ≤ v.W ∧ v.W ≤ 16) → off + wsum L ≤ w.length → Vls L (valsP w off L) ∧ inB (valsP w off L) = (w.drop off).take (wsum L)
 | [],off,_,_=>⟨⟨rfl,fun x hx=>by cases hx⟩,by simp [valsP,inB,wsum]⟩
 | v :: L,off,hw,hl=>by
  have hv:=hw v (by simp)
  have hs:wsum (v :: L) = v.W.toNat + wsum L:=by unfold wsum; rw [ZnE,Zrs]
  rw [hs] at hl ⊢
  obtain ⟨h1,h2⟩:=Zi5 (w:=w) L (off + v.W.toNat) (fun x hx=>hw x (by simp [hx])) (by omega)
  have hbl:((w.drop off).take v.W.toNat).length = v.W.toNat:=by rw [ZnF,Zoe]; omega
  have hn:=ZlT ((w.drop off).take v.W.toNat) (by omega)
  have hlt:=ZU ((w.drop off).take v.W.toNat).reverse
  rw [Zpi,hbl] at hlt
  refine ⟨⟨?_,fun x hx=>?_⟩,?_⟩
  ·rw [valsP,ZnE,ZnE,h1.ky]; rfl
  ·rw [valsP] at hx
   rcases Zof.1 hx with rfl | hx
   ·simp only
    rw [hn,cpow]
    omega
   ·exact h1.word x hx
  ·rw [valsP, ZbV, h2]
   simp only
   have e:(List.range v.W.toNat).reverse.map (bitI (wrd ((w.drop off).take v.W.toNat))) = (w.drop off).take v.W.toNat:=by
    rw [List.map_reverse,hn,Zjm (by rw [Zpi,hbl]) (by omega),List.reverse_reverse]
   rw [e,← ZqD,List.take_add]
theorem ZmV {a b:List Bool} {k:Nat} (h:a.length = b.length) (hk:k < a.length) (hp:∀ j,j < k → a[j]? = b[j]?) (ha:a[k]? = some false) (hb:b[k]? = some true):vB a.reverse < vB b.reverse:=by
 have ea:a = a.take k ++ (false :: a.drop (k + 1)):=by
  have:=(Zo0 k a).symm
  rw [Zoj hk] at this
  rw [Zn5 hk,Option.some.injEq] at ha
  rwa [ha] at this
 have eb:b = b.take k ++ (true :: b.drop (k + 1)):=by
  have:=(Zo0 k b).symm
  rw [Zoj (by omega)] at this
  rw [Zn5 (by omega),Option.some.injEq] at hb
  rwa [hb] at this
 have et:a.take k = b.take k:=Zo8 fun j=>by
  rw [Zok,Zok]
  split
  ·rename_i hj; exact hp j hj
  ·rfl
 have h1:=ZU (a.drop (k + 1)).reverse
 have h2:=ZU (b.drop (k + 1)).reverse
 rw [Zpi,Zoe] at h1 h2
 rw [ea,eb,et]
 simp only [ZpT,List.reverse_cons,Zoh,Cc.vB_app,Zpi,Zoe,vB,bi,ZnL,Zom,Zn6,ZnI,ZnV,Nat.mul_zero,ZoQ,Zpc,Zp8,Nat.pow_one]
 rw [h] at h1 ⊢
 simp only [ZpI]
 omega
theorem ZmY {m:Nat} {b:List Int} (hA:Sv.Asg m b) {i:Nat} (h1:1 ≤ i) (h2:i ≤ m):Sv.vm (Sv.bls b) i = Sv.mdl b i:=by
 have hl:=hA.len
 unfold Sv.vm Sv.bls Sv.mdl
 rw [Zn8,ZnW,ZoC,show 1 + (i - 1) = i by omega,Zn5 (by omega)]
 have hv:=hA.val i
 rw [Zn8,Zn5 (by omega)] at hv ⊢
 simp only [Zol,ZnM] at hv ⊢
 rcases hv with e | e | e <;> rw [e] <;> rfl
theorem Zl8 {m:Nat} {M M':Nat → Bool} (h:∀ i,1 ≤ i → i ≤ m → M i = M' i) {x:Int} (hx:Sv.isL m x):Sv.tr M x = Sv.tr M' x:=by
 unfold Sv.tr
 rw [h x.natAbs (by have:=hx.1; omega) hx.2]
theorem Zln {m:Nat} {M M':Nat → Bool} {cs:List (List Int)} (hcs:∀ c ∈ cs,Sv.ClM m c) (h:∀ i,1 ≤ i → i ≤ m → M i = M' i) (hM:Sv.Sat M cs):Sv.Sat M' cs:=fun c hc=>by
 obtain ⟨x,hx,ht⟩:=hM c hc
 exact ⟨x,hx,by rw [← Zl8 h ((hcs c hc).lit x hx)]; exact ht⟩
theorem ZgG {m:Nat} (M:Nat → Bool):Sv.Ext m M (List.replicate (m + 1) 0):=fun x _ h=>by
 have:∀ k,(List.replicate (m + 1) (0:Int)).getD k 0 = 0:=fun k=>by
  rw [Zn8,ZoZ]; split <;> rfl
 unfold Sv.lv at h
 rw [this] at h
 split at h <;> omega
structure Sol (t:D.Term) (L:List D.Value) (r:Int × List D.Value):Prop where
 code:r.1 = 1 ∨ r.1 = 2 ∨ r.1 = 3
 nil:r.1 ≠ 1 → r.2 = []
 yes:r.1 = 1 → Vls L r.2 ∧ val t r.2 = 1 ∧ ∀ l,Vls L l → val t l = 1 → num r.2 ≤ num l
 no:r.1 = 2 → ∀ l,Vls L l → val t l ≠ 1
theorem Ze5 {L l:List D.Value} (h:l.map ky = L.map ky) (hw:∀ v ∈ L,1 ≤ v.W ∧ v.W ≤ 16):(inB l).length = wsum L:=by
 have h1:=ZdO h hw
 have h2:=Zds L 0 hw
 omega
theorem ZjN {t:D.Term} {L:List D.Value} (hs:msz t ≤ 1048576) (ht:termB t = true) (hw1:t.W = 1) (eL:ZA fuel t = some L) {limit:Int} (h0:0 ≤ limit) (h3:limit ≤ 3000):Sol t L (solP t limit):=by
 have hcond:termB t = true ∧ t.W = 1 ∧ 0 ≤ limit ∧ limit ≤ 3000:=⟨ht,hw1,h0,h3⟩
 by_cases hok:(circT t).2.2 = true
 rotate_left
 ·rw [ZkE hcond hok]
  exact ⟨.inr (.inr rfl),fun _=>rfl,fun h=>(by cases h),fun h=>(by cases h)⟩
 rw [ZjR hcond hok,eL]
 obtain ⟨L',hT⟩:=ZgB ht hs hok
 obtain rfl:L' = L:=by have:=hT.vars; rw [eL] at this; exact (Option.some.inj this).symm
 obtain ⟨L2,e2,hL,-,hw,h30,hC,hlen,hlit,hin,hb30,hev⟩:=Zjk hs hok
 obtain rfl:L2 = L':=by rw [eL] at e2; exact (Option.some.inj e2).symm
 have f1:=(ZeH hT hw1).1
 have hlit0:=(lit0 hT hw1).2
 have hsum:=hT.sum
 have hL1:lines (circT t).1 = (circT t).1.Inputs + 1 + ((circT t).1.Gates.length:Int):=rfl
 have hi0:=hC.i0
 obtain ⟨x,hx⟩ : ∃ x,(circT t).2.1 = [x]:=by
  rw [hw1] at hlen
  cases hq:(circT t).2.1 with
  | nil=>rw [hq] at hlen; cases hlen
  | cons x l=>rw [hq] at hlen; cases l with
   | nil=>exact ⟨x,rfl⟩
   | cons y l=>simp at hlen
 have hval:∀ l,Vls L2 l → val t l = (bi (litV (ev (circT t).1 (inB l)) x):Int):=fun l hl=>by
  have:=hev l hl fuel (by unfold fuel; decide)
  unfold val
  rw [this,hx]
  simp [vB]
 have hone:∀ l,Vls L2 l → (val t l = 1 ↔ litV (ev (circT t).1 (inB l)) x = true):=fun l hl=>by
  rw [hval l hl]
  cases litV (ev (circT t).1 (inB l)) x <;> simp [bi]
 have hx0:(circT t).2.1.getD 0 0 = x:=by rw [hx]; rfl
 rw [hx0] at hlit0
 have hform:(formT t).Clauses = Cc.accF (circT t).1 (circT t).1.Gates.length ++ [[x]]:=by unfold formT; rw [hx0]
 generalize hm:(lines (circT t).1).toNat = m at f1 ⊢
 have hmL:(m:Int) = lines (circT t).1:=by omega
 have hcs:∀ c ∈ (formT t).Clauses,Sv.ClM m c:=fun c hc=>(f1.cl c hc).1
 have hmodel:∀ l,Vls L2 l → val t l = 1 → Sv.Sat (Sv.vm (ev (circT t).1 (inB l))) (formT t).Clauses:=fun l hl h1=>by
  have hil:=Ze5 hl.ky hw
  have hel:=Cc.ev_len (c:=(circT t).1) (v:=inB l) (by omega)
  rw [hform]
  intro c hc
  rcases ZnS.1 hc with hc | hc
  ·refine (Sv.lines_uniq hC hel).2 ?_ c hc
   obtain ⟨u,hu⟩:=Sv.evalG_pre (circT t).1.Gates (true :: inB l)
   rw [Zmt,hu]
   simp only [Zpx,List.drop_succ_cons,Zpu]
   rw [List.take_left' (by omega),hu]; rfl
  ·rw [ZnX.1 hc]
   exact ⟨x,by simp,by rw [← ZdY]; exact (hone l hl).1 h1⟩
 have hF:=Sv.brn_first (limit:=limit) f1 (v:=List.replicate (m + 1) 0) (Sv.zeros_asg m) 0
 have hS:=Sv.brn_ok m (formT t).Clauses limit (m + 1) (List.replicate (m + 1) 0) 0 h0
 unfold Sv.serP
 simp only [Zol]
 generalize Sv.brn m (formT t).Clauses limit (m + 1) (List.replicate (m + 1) 0) 0 = r at hF hS
 by_cases c1:r.1 = 1
 ·simp only [ZnC c1]
  obtain ⟨hFull,-,hle⟩:=hF.yes c1
  have hA:=hFull.asg
  have hwl:(Sv.bls r.2.1).length = m:=Sv.bls_len hA
  have hvm:=fun i (h1:1 ≤ i) (h2:i ≤ m)=>ZmY hA h1 h2
  have hsat:Sv.Sat (Sv.vm (Sv.bls r.2.1)) (formT t).Clauses:=Zln hcs (fun i h1 h2=>(hvm i h1 h2).symm) (hFull.sat hcs)
  generalize Sv.bls r.2.1 = w at hwl hvm hsat
  have hwL:(w.length:Int) = lines (circT t).1:=by omega
  obtain ⟨v1,v2⟩:=Zi5 (w:=w) L2 1 hw (by omega)
  rw [hform] at hsat
  have hacc:Sv.Sat (Sv.vm w) (Cc.accF (circT t).1 (circT t).1.Gates.length):=fun c hc=>hsat c (ZnS.2 (.inl hc))
  have hxt:litV w x = true:=by
   obtain ⟨y,hy,hyt⟩:=hsat [x] (ZnS.2 (.inr (ZnX.2 rfl)))
   rw [ZnX.1 hy] at hyt
   rw [ZdY]; exact hyt
  have hev2:w = ev (circT t).1 (inB (valsP w 1 L2)):=by
   rw [Zmt,v2,show wsum L2 = (circT t).1.Inputs.toNat by omega]
   exact (Sv.lines_uniq hC hwL).1 hacc
  have hv1:val t (valsP w 1 L2) = 1:=by rw [hone _ v1,← hev2]; exact hxt
  refine ⟨.inl rfl,fun h=>absurd rfl h,fun _=>⟨v1,hv1,fun l hl h1=>?_⟩,fun h=>(by cases h)⟩
  have hil:=Ze5 hl.ky hw
  have hil2:=Ze5 v1.ky hw
  have hLe:=hle _ (hmodel l hl h1) (ZgG _)
  have hpre:∀ (z:List D.Value) (j:Nat),j < (inB z).length → Sv.vm (ev (circT t).1 (inB z)) (j + 2) = (inB z).getD j false:=fun z j hj=>by
   obtain ⟨u,hu⟩:=Sv.evalG_pre (circT t).1.Gates (true :: inB z)
   unfold Sv.vm
   rw [Zmt,hu]
   simp only [Zn8]
   rw [show j + 2 - 1 = j + 1 by omega,Zpx,ZqJ,ZnJ hj]
  have hwv:∀ j,j < wsum L2 → Sv.mdl r.2.1 (j + 2) = (inB (valsP w 1 L2)).getD j false:=fun j hj=>by
   rw [← hpre _ j (by omega),← hev2]
   exact (hvm (j + 2) (by omega) (by omega)).symm
  have hget:∀ (z:List Bool) (j:Nat),j < z.length → z[j]? = some (z.getD j false):=fun z j hj=>by
   rw [Zn8,Zn5 hj]; rfl
  show num (valsP w 1 L2) ≤ num l
  unfold num
  have heq:(∀ j,j < wsum L2 → (inB (valsP w 1 L2)).getD j false = (inB l).getD j false) → vB (inB (valsP w 1 L2)).reverse ≤ vB (inB l).reverse:=fun h=>by
   have:inB (valsP w 1 L2) = inB l:=Zo8 fun j=>by
    by_cases hj:j < wsum L2
    ·rw [hget _ j (by omega),hget _ j (by omega),h j hj]
    ·rw [ZnT (by omega),ZnT (by omega)]
   rw [this]; exact ZnK _
  rcases hLe with hLe | ⟨u,u1,u2,u3,u4,u5⟩
  ·refine heq fun j hj => ?_
   rw [← hwv j hj,← hpre l j (by omega)]
   exact hLe (j + 2) (by omega) (by omega)
  ·by_cases cu : u - 2 < wsum L2 ∧ 2 ≤ u
   ·refine Nat.le_of_lt (ZmV (k := u - 2) (by omega) (by omega) (fun j hj => ?_) ?_ ?_)
    ·rw [hget _ j (by omega),hget _ j (by omega),← hwv j (by omega),← hpre l j (by omega),u3 (j + 2) (by omega) (by omega)]
    ·rw [hget _ _ (by omega),← hwv _ cu.1,show u - 2 + 2 = u by omega,u4]
    ·rw [hget _ _ (by omega),← hpre l _ (by omega),show u - 2 + 2 = u by omega,u5]
   ·by_cases cu1 : u = 1
    ·exfalso
     subst cu1
     have:Sv.mdl r.2.1 1 = true:=by
      rw [← hvm 1 (by omega) (by omega),hev2,Zmt]
      obtain ⟨u,hu⟩:=Sv.evalG_pre (circT t).1.Gates (true :: inB (valsP w 1 L2))
      rw [hu]; rfl
     rw [u4] at this; cases this
    ·refine heq fun j hj => ?_
     rw [← hwv j hj,← hpre l j (by omega)]
     exact u3 (j + 2) (by omega) (by omega)
 ·simp only [ZnA c1]
  refine ⟨?_,fun _=>rfl,fun h=>absurd h c1,fun h l hl h1=>hF.no h _ (hmodel l hl h1) (ZgG _)⟩
  rcases hS.code with h | h | h
  ·exact .inl h
  ·exact .inr (.inl h)
  ·exact .inr (.inr h)
theorem Zfc {σt ρt:Type} {B:σt → Option (σt ⊕ ρt)} {I:σt → Prop} {R:ρt → Prop} (h:∀ s q,I s → B s = some q → (∀ s',q = .inl s' → I s') ∧ ∀ r,q = .inr r → R r):∀ (n:Nat) (s:σt) (r:ρt),I s → iterN B n s = some r → R r
 | 0,_,_,_,e=>by cases e
 | n + 1,s,r,hi,e=>by
  unfold iterN at e
  cases hb:B s with
  | none=>rw [hb] at e; cases e
  | some q=>
   rw [hb] at e
   obtain ⟨h1,h2⟩:=h s q hi hb
   cases q with
   | inl s'=>exact Zfc h n s' r (h1 s' rfl) e
   | inr r'=>exact h2 r (by simpa using e)
def Z0 (l:List D.Value):Prop:=∀ v ∈ l,v.N = 0
theorem Zi2 {l r:List D.Value} {a b:Int} (h:cut? l a b = some r):∀ v ∈ r,v ∈ l:=fun v hv=>by
 unfold cut? at h
 split at h
 ·rw [← Option.some.inj h] at hv
  exact ZoV (ZoH hv)
 ·cases h
theorem Zhf {α:Type} {l m r:List α} (h:app? l m = some r):r = l ++ m:=by
 unfold app? at h
 split at h
 ·exact (Option.some.inj h).symm
 ·cases h
theorem Zfj:∀ (n:Nat) (t:D.Term) (l:List D.Value) (r:List D.Value × Bool),ZP n t l = some r → Z0 l → Z0 r.1
 | 0,_,_,_,h,_=>by rw [ZP] at h; cases h
 | n + 1,t,l,r,h,hl=>by
  rw [ZP] at h
  split at h
  ·obtain ⟨k, -, h⟩ := Zod.1 h
   obtain ⟨x2,-,h⟩:=Zod.1 h
   split at h
   ·obtain ⟨x3, -, h⟩ := Zod.1 h
    rw [← Option.some.inj h]; exact hl
   ·obtain ⟨x4, h4, h⟩ := Zod.1 h
    obtain ⟨x5,h5,h⟩:=Zod.1 h
    obtain ⟨x6,h6,h⟩:=Zod.1 h
    obtain ⟨x7,h7,h⟩:=Zod.1 h
    obtain ⟨x8,h8,h⟩:=Zod.1 h
    rw [← Option.some.inj h,Zhf h8,Zhf h6,Zhf h5]
    intro v hv
    simp only [Zq1,ZnS,ZnX] at hv
    rcases hv with (hv | rfl) | hv
    ·exact hl v (Zi2 h4 v hv)
    ·rfl
    ·exact hl v (Zi2 h7 v hv)
  ·obtain ⟨q, hq, h⟩ := Zod.1 h
   have:=Zfc (I:=fun s=>Z0 s.2) (R:=fun q:List D.Value ⊕ (List D.Value × Bool)=>match q with | .inl l=>Z0 l | .inr p=>Z0 p.1) (fun s q hs hB=>by
    split at hB
    ·obtain ⟨x9, h9, hB⟩ := Zod.1 hB
     obtain ⟨x10,h10,hB⟩:=Zod.1 hB
     split at hB
     ·rw [← Option.some.inj hB]
      exact ⟨fun s' h=>(by cases h),fun r h=>by rw [← Sum.inr.inj h]; exact fun v hv=>(by cases hv)⟩
     ·rw [← Option.some.inj hB]
      exact ⟨fun s' h=>by rw [← Sum.inl.inj h]; exact Zfj n x9 s.2 x10 h10 hs,fun r h=>(by cases h)⟩
    ·rw [← Option.some.inj hB]
     exact ⟨fun s' h=>(by cases h),fun r h=>by rw [← Sum.inr.inj h]; exact hs⟩) n (0,l) q hl hq
   cases q with
   | inl s=>rw [← Option.some.inj h]; exact this
   | inr v=>rw [← Option.some.inj h]; exact this
theorem Zmj {t:D.Term} {L:List D.Value} (h:ZA fuel t = some L):∀ v ∈ L,v.N = 0:=by
 unfold ZA at h
 obtain ⟨b,-,h⟩:=Zod.1 h
 split at h
 ·rw [← Option.some.inj h]; intro v hv; cases hv
 ·obtain ⟨x, hx, h⟩ := Zod.1 h
  rw [← Option.some.inj h]
  exact Zfj fuel t [] x hx fun v hv=>(by cases hv)
theorem Znl {t:D.Term} {L L':List D.Value} (h:VL t L) (h':VL t L'):L.map ky = L'.map ky:=by
 have e:L.map zv = L'.map zv:=by rw [h.eq,h'.eq]
 have:=congrArg (List.map ky) e
 rw [ZoG,ZoG] at this
 exact this
theorem ZlU {t:D.Term} {L l l':List D.Value} (ht:termB t = true) (hL:VL t L) (hw:∀ v ∈ L,1 ≤ v.W ∧ v.W ≤ 16) (h30:L.length ≤ 30) (h:Vls L l) (h':Vls L l') (e:inB l = inB l'):val t l = val t l':=by
 rw [(Zer ht hL hw h30 h (ZpE _)).2,(Zer ht hL hw h30 h' (E:=[true] ++ inB l) (by rw [e]; exact ZpE _)).2]
def notT (t:D.Term):D.Term:=⟨1,1,0,⟨[]⟩,[t]⟩
section
variable {t:D.Term} (ht:termB t = true) (hw1:t.W = 1)
theorem ZdN:vrs (notT t) = vrs t:=by
 rw [XR,ZnA (by show ¬ (1:Int) = 22; decide)]
 show vrss [t] = vrs t
 rw [Xj,ZaD,Zoz]
include ht hw1
theorem ZgM (hc:cnt t ≤ 239):termB (notT t) = true:=by
 have hb:=ht
 unfold termB at hb ⊢
 simp only [ZnB,ZnO] at hb ⊢
 refine ⟨⟨?_,?_⟩,by rw [ZdN]; exact hb.2⟩
 ·rw [Xk]
  show 1 + cnts [t] ≤ 240
  rw [ZaV,ZaX]; omega
 ·rw [Zam]
  show (locB (notT t) && nodesB [t]) = true
  have:nodesB [t] = true:=by rw [Yl]; simp [hb.1.2]
  rw [this,ZpJ]
  unfold locB notT shB
  simp [hw1]
  exact ZbM _
omit ht hw1 in
theorem ZjY {L:List D.Value} (h:VL t L):VL (notT t) L:=⟨by rw [ZdN]; exact h.eq,h.nm,by rw [ZdN]; exact h.mem,fun p hp=>h.all p (by rw [← ZdN]; exact hp)⟩
theorem ZlO (hc:cnt t ≤ 239) {L l:List D.Value} (hL:VL t L) (hw:∀ v ∈ L,1 ≤ v.W ∧ v.W ≤ 16) (h30:L.length ≤ 30) (h:Vls L l):val (notT t) l = 1 - val t l ∧ (val t l = 0 ∨ val t l = 1):=by
 obtain ⟨hcn,hn⟩:=ZeC ht
 have e1:=(Zer (ZgM ht hw1 hc) (ZjY hL) hw h30 h (ZpE _)).2
 have e2:=(Zer ht hL hw h30 h (ZpE _)).2
 have e3:=(ZfN (vs:=L) (l:=l) (E:=[true] ++ inB l) (by rw [h.len]; exact h30) (cnt t) t (ZnK _) hn (ZjP hL hw h (ZpE _)) fuel (by unfold fuel; omega)).2
 rw [hw1] at e3
 have e4:tB L ([true] ++ inB l) (notT t) = (tB L ([true] ++ inB l) t).map (fun b=>!b):=by
  rw [Zlp,ZnA (by show ¬ (1:Int) = 0; decide),ZnA (by show ¬ (1:Int) = 22; decide)]
  show finB 1 1 0 (tBs L ([true] ++ inB l) [t]) = _
  rw [Zew,ZfY]
  rfl
 rw [e1,e2,e4]
 match tB L ([true] ++ inB l) t,e3 with
 | [true],_=>exact ⟨rfl,.inr rfl⟩
 | [false],_=>exact ⟨rfl,.inl rfl⟩
end
end Go.Proofs.YthlolmkdppfioaaGreat
end
