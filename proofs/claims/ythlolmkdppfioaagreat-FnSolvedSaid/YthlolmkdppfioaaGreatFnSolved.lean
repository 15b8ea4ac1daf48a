/- The plain law of this claim. No program in sight. -/
import Derived.Test.YthlolmkdppfioaaGreatPLib3
namespace Go.Proofs.YthlolmkdppfioaaGreat
open Go.GL
open Cc (vB ZU bi)
set_option linter.unusedSimpArgs false
set_option maxRecDepth 100000
def FstOf (T:List Int) (v f:Int):Prop:=(f = -1 ∧ ∀ i:Nat,T[i]? ≠ some v) ∨ ∃ i:Nat,f = i ∧ T[i]? = some v ∧ ∀ j:Nat,j < i → T[j]? ≠ some v
theorem FstOf.nil (v:Int):FstOf [] v (-1):=.inl ⟨rfl,fun i=>by simp⟩
theorem FstOf.snoc {T:List Int} {v f x:Int} (h:FstOf T v f):FstOf (T ++ [x]) v (cond ((x == v) && decide (f < 0)) (T.length:Int) f):=by
 rcases h with ⟨rfl,h⟩ | ⟨i,rfl,h1,h2⟩
 ·by_cases c : x = v
  ·subst c
   rw [show ((x == x) && decide ((-1:Int) < 0)) = true by simp]
   exact .inr ⟨T.length,rfl,by simp,fun j hj=>by rw [ZnJ hj]; exact h j⟩
  ·have : (x == v) = false := by simpa using c
   rw [this,Zqr,cond_false]
   refine .inl ⟨rfl,fun i=>?_⟩
   rcases Zqn i T.length with hi | rfl | hi
   ·rw [ZnJ hi]; exact h i
   ·simpa using c
   ·rw [ZnT (by simp; omega)]; exact fun h=>(by cases h)
 ·rw [show decide ((i : Int) < 0) = false from decide_eq_false (by omega), Zqs, cond_false]
  have hi:i < T.length:=(Zn9.1 h1).1
  exact .inr ⟨i,rfl,by rw [ZnJ hi]; exact h1,fun j hj=>by rw [ZnJ (by omega)]; exact h2 j hj⟩
theorem ZlD {T:List Int} (hT:T.length ≤ 1048576):∃ a b,iterN (fun (s1:Int × Int × Int)=>
    if (decide (s1.2.2 < (len T))) then
     (get? T s1.2.2).bind fun x3=>
     some (.inl ((cond ((x3 == 1) && (decide (s1.1 < 0))) s1.2.2 s1.1),(cond ((x3 == 0) && (decide (s1.2.1 < 0))) s1.2.2 s1.2.1),(w64 (s1.2.2 + 1))))
    else
     some (.inr (s1.1,s1.2.1))
   ) fuel ((-1),(-1),0) = some (a,b) ∧ FstOf T 1 a ∧ FstOf T 0 b:=by
  obtain ⟨r,g1,g2⟩:=ZcM (B:=fun (s1:Int × Int × Int)=>
    if (decide (s1.2.2 < (len T))) then
     (get? T s1.2.2).bind fun x3=>
     some (.inl ((cond ((x3 == 1) && (decide (s1.1 < 0))) s1.2.2 s1.1),(cond ((x3 == 0) && (decide (s1.2.1 < 0))) s1.2.2 s1.2.1),(w64 (s1.2.2 + 1))))
    else
     some (.inr (s1.1,s1.2.1)))
    (I:=fun k s=>s.2.2 = (k:Int) ∧ FstOf (T.take k) 1 s.1 ∧ FstOf (T.take k) 0 s.2.1) (m:=T.length) (R:=fun (r:Int × Int)=>FstOf T 1 r.1 ∧ FstOf T 0 r.2)
    (fun k s hk ⟨h1,h2,h3⟩=>by
      obtain ⟨a,b,c⟩:=s
      simp only at h1 h2 h3 ⊢
      subst h1
      rw [ZnC (by rw [Za]; simp; omega),get?_nat,Zn5 hk]
      have e:(T.take k).length = k:=by rw [ZnF]; omega
      have q1:=h2.snoc (x:=T[k])
      have q2:=h3.snoc (x:=T[k])
      rw [e] at q1 q2
      refine .inl ⟨_,rfl,by simp only; rw [Ze (by omega) (by omega)]; omega,?_,?_⟩
      · rw [ZnG hk]; exact q1
      · rw [ZnG hk]; exact q2)
    (fun s ⟨h1,h2,h3⟩=>by
      obtain ⟨a,b,c⟩:=s
      simp only at h1 h2 h3 ⊢
      subst h1
      rw [ZnA (by rw [Za]; simp)]
      rw [Zou] at h2 h3
      exact ⟨_,rfl,h2,h3⟩) T.length 0 (-1,-1,0) (by omega) ⟨rfl,FstOf.nil _,FstOf.nil _⟩ fuel (lt_fuel (by omega))
  exact ⟨r.1,r.2,g1,g2⟩
theorem Zfo {t:D.Term} {L:List D.Value} (eL:ZA fuel t = some L) (hw:∀ v ∈ L,1 ≤ v.W ∧ v.W ≤ 16) (h10:L.length ≤ 10) (hb:(inB L).length ≤ 10) {code first:Int} {vs:List D.Value} (hc:code = 1 ∨ code = 2 ∨ code = 3) (hn:code ≠ 1 → vs = []) (hy:code = 1 → Vls L vs ∧ (num vs:Int) = first) (hno:code = 2 → first < 0):YX fuel t code vs first = some true:=by
 unfold YX
 rcases hc with rfl | rfl | rfl
 ·obtain ⟨hv, hf⟩ := hy rfl
  rw [ZnA (by decide),ZnA (by simp; omega),eL]
  simp only [Zn4]
  have hll:=hv.len
  have hlt:=ZhB vs
  rw [Zcs hv.ky] at hlt
  have hp:2 ^ (inB L).length ≤ 2 ^ 10:=Zo3 (by decide) hb
  have hnth:∀ k,num (vs.take k) ≤ num vs:=fun k=>by
   have:num vs = num (vs.take k ++ vs.drop k):=by rw [Zo0]
   rw [this,ZaL]
   exact Nat.le_add_right_of_le (Zqh _ (ZoT _))
  rw [Xv (I:=fun k s=>s = ((num (vs.take k):Int),(k:Int))) (m:=L.length) (r:=(.inl (num vs:Int):Int ⊕ Bool)) (fun k s hk hs=>?_) (fun s hs=>?_) L.length 0 (0,0) (by omega) (by simp [num,inB,vB]) fuel (lt_fuel (by omega))]
  ·simp only [Zn4]
   rw [ZnC (by simpa using hf)]
   rw [Za,Za,hll]; simp
  ·subst hs
   refine ⟨_,?_,rfl⟩
   have hkv:k < vs.length:=by omega
   have hk1:(vs.map ky)[k]? = (L.map ky)[k]?:=by rw [hv.ky]
   rw [ZnW,ZnW,Zn5 hkv,Zn5 hk] at hk1
   simp only [ZnM,Option.some.injEq,ky,Prod.mk.injEq] at hk1
   have hwk:=hw _ (Zoq hk)
   have hwd:=hv.word _ (Zoq hkv)
   have hwb:Z9 vs[k].W vs[k].N = some true:=by rw [Zcc,(Zez (by omega) (by omega) _).2 hwd]
   have hgv:get? vs (k:Int) = some vs[k]:=by rw [get?_nat,Zn5 hkv]
   have hge:decide ((k:Int) ≥ (len vs)) = false:=by rw [Za]; exact decide_eq_false (by omega)
   have hnm:Str.eqb vs[k].Name L[k].Name = true:=by rw [hk1.1]; exact ZbM _
   have hwe:(vs[k].W != L[k].W) = false:=by rw [hk1.2]; simp
   simp only
   rw [ZnC (by rw [Za]; simp; omega),get?_nat,Zn5 hk]
   simp only [Zn4,hge,Zn6,ZnI,hgv,hnm,ZnY,ZpB,hwe,hwb]
   have hsucc:=hnth (k + 1)
   rw [ZnG hkv,ZaL,ZdX] at hsucc ⊢
   have h1:=Zde (x:=vs[k]) (by omega) hwd.1 hwd.2
   have hmul:num (vs.take k) * 2 ^ vs[k].W.toNat ≤ 2 ^ 10:=by omega
   rw [Zh4 _ (by omega),Zop (by omega),cpow,← Zqj,← hk1.2]
   generalize num (vs.take k) * 2 ^ vs[k].W.toNat = q at hmul hsucc ⊢
   rw [YJ (by omega) (by omega)]
   simp only [Zn4]
   rw [YJ (by omega) (by omega),YJ (by omega) (by omega),← h1,Int.natCast_add,Int.natCast_add]
   rfl
  ·subst hs
   simp only
   rw [ZnA (by rw [Za]; simp),Zov (by omega)]
 ·have hv := hn (by decide)
  subst hv
  have:=hno rfl
  rw [ZnA (by decide),ZnC (by simp),decide_eq_true this]
  rfl
 ·rfl
theorem fin_FnSolved (code:List Byt) (_:fitList fitByt code):∃ n,Zaj n code = some true:=by
 refine ⟨fuel,?_⟩
 unfold Zaj
 by_cases c0:len code > 1048576
 ·rw [ZnC (by simpa using c0)]
 rw [ZnA (by simpa using c0)]
 rw [Za] at c0
 have hl:code.length ≤ 1048576:=by omega
 obtain ⟨t,et,hs3,hw1⟩:=ZjB (fuel:=fuel) hl (m:=0) (w:=1) (by decide) (by decide) 3 (by decide)
 rw [show (3:Int) = ((3:Nat):Int) from rfl,et]
 have hs2:msz t ≤ 133:=hs3
 have hs:msz t ≤ 1048576:=by omega
 have hcn:cnt t ≤ 239:=by have:=Zi8 t; omega
 simp only [Zn4]
 by_cases ht:termB t = true
 rotate_left
 ·have h' : termB t = false := by simpa using ht
  have e:YZ fuel t = some []:=by
   unfold YZ
   have eV:ZA fuel t = some []:=by unfold ZA; rw [Zck hs,h']; rfl
   rw [eV,Zck hs,h']; rfl
  rw [e]; rfl
 obtain ⟨L,eL,hL,hn,hc,hw,hnm,hlen,hb0⟩:=ZaC ht hs
 obtain ⟨T,eT,hT⟩:=ZjO hs ht eL hL hw hlen (Zmj eL)
 rw [eT]
 simp only [Zn4]
 rcases hT with ⟨-,rfl⟩ | ⟨hb10,h10,hT⟩
 ·rfl
 have hil:=ZdO (L:=L) (l:=L) rfl hw
 have hpp:=ZoT (inB L).length
 have hp10:2 ^ (inB L).length ≤ 2 ^ 10:=Zo3 (by decide) (by omega)
 have hTl:=hT.len
 rw [ZnA (by rw [Za]; simp only [ZoN]; omega)]
 obtain ⟨f1,f0,e1,F1,F0⟩:=ZlD (T:=T) (by omega)
 rw [e1]
 simp only [Zn4]
 have hk3:msz (notT t) ≤ 1048576:=by unfold notT; rw [Xh,Y1,YL]; simp; omega
 have htn:=ZgM ht hw1 hcn
 obtain ⟨L',eL',hL',hnn,hc',hw',hnm',hlen',hb0'⟩:=ZaC htn hk3
 have hkyL:L'.map ky = L.map ky:=Znl hL' (ZjY hL)
 have S1:=ZjN hs ht hw1 eL (limit:=3000) (by decide) (by decide)
 have S0:=ZjN hk3 htn rfl eL' (limit:=3000) (by decide) (by decide)
 have e4:=Zem (t:=t) (limit:=3000) hs
 have e5:=Zem (t:=notT t) (limit:=3000) hk3
 rw [e4]
 simp only [Zn4]
 unfold XT
 rw [Zce hs,ht,show (t.W != 1) = false by simpa using hw1,Zi6]
 simp only [Zn4,ZnY,ZpB,Zn6,ZnI,Zo4,show decide ((0:Int) ≤ 3000 ∧ (3000:Int) ≤ 3000) = true from rfl]
 rw [show (D.Term.mk 1 1 0 ⟨[]⟩ ([t]:List D.Term)) = notT t from rfl,e5]
 simp only [Zn4]
 have hat:∀ l,Vls L l → T[num l]? = some (val t l):=fun l h=>by
  have hlt:=ZhB l
  rw [Zcs h.ky] at hlt
  obtain ⟨l',h1,h2,h3⟩:=hT.get (num l) (by omega)
  rw [h3,ZlU ht hL hw (by omega) h1 h (ZlB (h1.ky.trans h.ky.symm) h2)]
 have hplace:∀ (v:Int) (i:Nat),T[i]? = some v → ∃ l,Vls L l ∧ num l = i ∧ val t l = v:=fun v i h=>by
  obtain ⟨l',h1,h2,h3⟩:=hT.get i ((Zn9.1 h).1)
  exact ⟨l',h1,h2,by rw [h] at h3; exact (Option.some.inj h3).symm⟩
 have hfst:∀ (v f:Int) (m:List D.Value),FstOf T v f → Vls L m → val t m = v → (∀ l,Vls L l → val t l = v → num m ≤ num l) → (num m:Int) = f:=fun v f m hF hm hv hmin=>by
  have hmT:=hat m hm
  rw [hv] at hmT
  rcases hF with ⟨-,h⟩ | ⟨i,rfl,h1,h2⟩
  ·exact absurd hmT (h _)
  ·obtain ⟨l, q1, q2, q3⟩ := hplace v i h1
   have:=hmin l q1 q3
   rcases Zp1 (num m) i with hlt | hge
   ·exact absurd hmT (h2 _ hlt)
   ·omega
 have hnone:∀ (v f:Int),FstOf T v f → (∀ l,Vls L l → val t l ≠ v) → f < 0:=fun v f hF hno=>by
  rcases hF with ⟨rfl,-⟩ | ⟨i,rfl,h1,-⟩
  ·decide
  ·obtain ⟨l, q1, -, q3⟩ := hplace v i h1
   exact absurd q3 (hno l q1)
 have hx6:YX fuel t (solP t 3000).1 (solP t 3000).2 f1 = some true:=Zfo eL hw h10 (by omega) S1.code S1.nil (fun h=>⟨(S1.yes h).1,hfst 1 f1 _ F1 (S1.yes h).1 (S1.yes h).2.1 (S1.yes h).2.2⟩) (fun h=>hnone 1 f1 F1 (S1.no h))
 have hVk:∀ l,Vls L' l ↔ Vls L l:=fun l=>⟨fun h=>⟨h.ky.trans hkyL,h.word⟩,fun h=>⟨h.ky.trans hkyL.symm,h.word⟩⟩
 have hvn:∀ l,Vls L l → (val (notT t) l = 1 ↔ val t l = 0):=fun l h=>by
  obtain ⟨q1,q2⟩:=ZlO ht hw1 hcn hL hw (by omega) h
  rw [q1]; omega
 generalize solP (notT t) 3000 = r at S0 ⊢
 rcases S0.code with h1 | h2 | h3
 ·obtain ⟨y1, y2, y3⟩ := S0.yes h1
  have y1':=(hVk _).1 y1
  have hnum:(num r.2:Int) = f0:=hfst 0 f0 r.2 F0 y1' ((hvn _ y1').1 y2) (fun l hl hv=>y3 l ((hVk l).2 hl) ((hvn l hl).2 hv))
  have hx7:YX fuel t 1 r.2 f0 = some true:=Zfo eL hw h10 (by omega) (.inl rfl) (fun h=>absurd rfl h) (fun _=>⟨y1',hnum⟩) (fun h=>(by cases h))
  have hf0:decide (f0 < 0) = false:=decide_eq_false (by omega)
  rw [ZnA (by rw [h1]; decide),ZnC (by rw [h1]; rfl)]
  simp only [Zn4,hx6,hf0]
  simp [hx7]
 ·have hf0 : f0 < 0 := hnone 0 f0 F0 fun l hl hv => S0.no h2 l ((hVk l).2 hl) ((hvn l hl).2 hv)
  rw [ZnC (by rw [h2]; rfl)]
  simp only [Zn4,hx6,decide_eq_true hf0]
  simp
 ·rw [ZnA (by rw [h3]; decide), ZnA (by rw [h3]; decide), h3]
  simp only [Zn4,hx6]
  simp
end Go.Proofs.YthlolmkdppfioaaGreat
