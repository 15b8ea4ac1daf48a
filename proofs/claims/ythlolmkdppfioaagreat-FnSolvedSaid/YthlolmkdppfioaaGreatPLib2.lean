/- Texts of this claim put into one: library or plain laws, without the program under test. -/
import Derived.Test.YthlolmkdppfioaaGreatPLib1
import Derived.Test.YthlolmkdppfioaaGreatLib4
set_option linter.unusedSimpArgs false
set_option linter.unusedVariables false
section
namespace Go.Proofs.YthlolmkdppfioaaGreat
open Go.GL
set_option linter.unusedSimpArgs false
set_option maxRecDepth 100000
def wsB (ks:List D.Term):Bool:=ks.all fun x=>decide (1 ≤ x.W ∧ x.W ≤ 16)
theorem Zne {ks:List D.Term} (h:nodesB ks = true):wsB ks = true:=by
 rw [Yl,ZnP] at h
 unfold wsB
 rw [ZnP]
 exact fun x hx=>decide_eq_true (Yf (h x hx))
theorem ZhS {n:Nat} {ks:List D.Term} {v:Bool × D.termCheck} (hn:ks.length < n) (hk:ks.length ≤ 1048576):iterN (fun (s1:Int)=>
   if (decide (s1 < (len ks))) then
    (get? ks s1).bind fun x3=>
    (Yu x3.W).bind fun x4=>
    if (!x4) then
     some (.inr (.inr v))
    else
     some (.inl ((w64 (s1 + 1))))
   else
    some (.inr (.inl ()))
  ) n (0) = some (if wsB ks = true then (.inl ():Unit ⊕ (Bool × D.termCheck)) else .inr v):=by
 obtain ⟨r,g1,g2⟩:=Yk (l:=ks) (n:=n) (σ:=Unit) (ρ:=Unit ⊕ (Bool × D.termCheck)) (B:=fun (s1:Int)=>
   if (decide (s1 < (len ks))) then
    (get? ks s1).bind fun x3=>
    (Yu x3.W).bind fun x4=>
    if (!x4) then
     some (.inr (.inr v))
    else
     some (.inl ((w64 (s1 + 1))))
   else
    some (.inr (.inl ()))) (fun k _=>(k:Int)) (fun ys _=>wsB ys = wsB ks) (fun r=>r = if wsB ks = true then (.inl ():Unit ⊕ (Bool × D.termCheck)) else .inr v)
  (fun k x xs a hk' hx hlen hi => by
   have hd:decide ((k:Int) < len ks) = true:=by rw [Za]; simp; omega
   simp only [hd,ZnV,get?_nat,hx,Zn4,Zg4]
   have e:wsB (x :: xs) = (decide (1 ≤ x.W ∧ x.W ≤ 16) && wsB xs):=rfl
   rw [e] at hi
   by_cases c:1 ≤ x.W ∧ x.W ≤ 16
   ·rw [decide_eq_true c, ZoK] at hi
    exact .inl ⟨(),by rw [decide_eq_true c,ZnA (by decide),Ze (by omega) (by omega)]; rfl,hi⟩
   ·rw [decide_eq_false c, Zqr] at hi
    exact .inr ⟨_,by rw [decide_eq_false c,ZnC (by decide)],by rw [← hi]; rfl⟩)
  (fun a hi => by
   have hd:decide ((ks.length:Int) < len ks) = false:=by rw [Za]; simp
   simp only [hd,Zn6,ZnI]
   exact ⟨_,rfl,by rw [← hi]; rfl⟩) (a:=()) rfl hn
 rw [show ((0:Nat):Int) = 0 from rfl] at g1
 rw [g1,g2]
theorem ZjL:∀ (n:Nat) (t:D.Term) (c:D.termCheck),msz t ≤ 1048576 → 0 ≤ c.count → c.count ≤ 240 → (tab c.widths).length ≤ c.count → 1048580 + (241 - c.count) ≤ (n:Int) → ∃ b c',Zy n c t = some (b,c') ∧
   (b = true → c.count + cnt t ≤ 240 ∧ nodeB t = true ∧ c'.count = c.count + cnt t ∧ runV (tab c.widths) (vrs t) = some (tab c'.widths)) ∧ (b = false → ¬ (c.count + cnt t ≤ 240 ∧ nodeB t = true ∧ (runV (tab c.widths) (vrs t)).isSome = true)):=by
 intro n
 induction n with
 | zero=>intro t c _ _ _ _ _; omega
 | succ n ih=>
  intro t c hs h0 h1 hg hn
  have hz:=ZbK t
  have hc:=Xk t
  have hb:=Zam t
  have bad:nodeB t = false → ¬ (c.count + cnt t ≤ 240 ∧ nodeB t = true ∧ (runV (tab c.widths) (vrs t)).isSome = true):=fun h ⟨_,h2,_⟩=>by rw [h] at h2; cases h2
  unfold Zy
  rw [Ze (by omega) (by omega)]
  by_cases hC:c.count + 1 > 240
  ·simp only [hC, decide_true, ZnV, Zn4, Zq9]
   exact ⟨false,_,rfl,fun h=>(by cases h),fun _ ⟨h,_,_⟩=>by omega⟩
  simp only [hC,decide_false,Zn6,ZnI,Zg4 t.W,Zn4,Zo4]
  by_cases hw:1 ≤ t.W ∧ t.W ≤ 16
  rotate_left
  ·simp only [hw, decide_false, Zp6, ZnV, Zn4, Zq9]
   exact ⟨false,_,rfl,fun h=>(by cases h),fun _=>bad (by rw [hb]; unfold locB; rw [decide_eq_false hw]; simp)⟩
  simp only [hw,decide_true,ZnY,Zn6,ZnI,Zn4,Zo4,and_self,ZmJ]
  by_cases hl:(t.Kids.length:Int) = kc t.Op
  rotate_left
  ·have : (len t.Kids != kc t.Op) = true := by rw [Za]; simpa using hl
   rw [ZnC this]
   exact ⟨false,_,rfl,fun h=>(by cases h),fun _=>bad (by rw [hb]; unfold locB; rw [Zl4 hl]; simp)⟩
  have hl':¬ (len t.Kids != kc t.Op) = true:=by rw [Za]; simpa using hl
  rw [ZnA hl',ZhS (by omega) (by omega)]
  simp only [Zn4]
  by_cases hk:wsB t.Kids = true
  rotate_left
  ·rw [ZnA hk]
   refine ⟨false,_,rfl,fun h=>(by cases h),fun _=>bad ?_⟩
   rw [hb]
   cases h:nodesB t.Kids
   ·simp
   ·exact absurd (Zne h) hk
  rw [ZnC hk]
  have hkw:∀ x ∈ t.Kids,1 ≤ x.W ∧ x.W ≤ 16:=fun x hx=>by
   unfold wsB at hk
   rw [ZnP] at hk
   exact of_decide_eq_true (hk x hx)
  obtain ⟨f,hf1,hf2⟩:=Zl9 hw hkw hl
  have hloc:locB t = ((Str.eqb t.Name ⟨[]⟩ || t.Op == 22) && (t.N == 0 || t.Op == 0 || t.Op == 19) && (f && (t.Op != 0 || wordB t.W t.N) && (t.Op != 22 || nameB t.Name))):=by
   unfold locB; rw [hf2,decide_eq_true hw,ZoK]
  simp only [hf1,Zn4]
  cases f with
  | false=>
   exact ⟨false,_,rfl,fun h=>(by cases h),fun _=>bad (by rw [hb,hloc]; simp)⟩
  | true=>
  simp only [ZnY,Zn6,ZnI,Zj9]
  have hx6:∃ x6,(if (t.Op == 0) = true then some (wordB t.W t.N) else some default) = some x6 ∧ (t.Op = 0 → x6 = wordB t.W t.N):=by
   by_cases o:t.Op = 0
   ·exact ⟨_,ZnC (by simpa using o),fun _=>rfl⟩
   ·exact ⟨_,ZnA (by simpa using o),fun h=>absurd h o⟩
  obtain ⟨x6,h6,h6'⟩:=hx6
  rw [h6]
  simp only [Zn4]
  by_cases c6:(t.Op == 0 && !x6) = true
  ·rw [ZnC c6]
   simp only [ZnB,ZoN,ZoO] at c6
   refine ⟨false,_,rfl,fun h=>(by cases h),fun _=>bad ?_⟩
   rw [hb,hloc,← h6' c6.1,c6.2,c6.1]; simp
  rw [ZnA c6]
  have d6:(t.Op != 0 || wordB t.W t.N) = true:=by
   by_cases o:t.Op = 0
   ·rw [← h6' o,o]; simp [o] at c6; simp [c6]
   ·simp [o]
  by_cases c7:(t.Op != 0 && t.Op != 19 && t.N != 0) = true
  ·rw [ZnC c7]
   simp only [ZnB,bne_iff_ne,ne_eq] at c7
   refine ⟨false,_,rfl,fun h=>(by cases h),fun _=>bad ?_⟩
   rw [hb,hloc]
   have:(t.N == 0 || t.Op == 0 || t.Op == 19) = false:=by simp [c7]
   rw [this]; simp
  rw [ZnA c7]
  have d7:(t.N == 0 || t.Op == 0 || t.Op == 19) = true:=by
   simp only [ZnB,bne_iff_ne,ne_eq] at c7
   by_cases a1:t.N = 0 <;> by_cases a2:t.Op = 0 <;> by_cases a3:t.Op = 19 <;> simp [a1,a2,a3] at c7 ⊢
  rw [d6,d7] at hloc
  simp only [ZoK,ZpJ] at hloc
  have ih':∀ x ∈ t.Kids,∀ c1:D.termCheck,c.count + 1 ≤ c1.count → c1.count ≤ 240 → (tab c1.widths).length ≤ c1.count → ∃ b c',Zy n c1 x = some (b,c') ∧
   (b = true → c1.count + cnt x ≤ 240 ∧ nodeB x = true ∧ c'.count = c1.count + cnt x ∧ runV (tab c1.widths) (vrs x) = some (tab c'.widths)) ∧ (b = false → ¬ (c1.count + cnt x ≤ 240 ∧ nodeB x = true ∧ (runV (tab c1.widths) (vrs x)).isSome = true)):=fun x hx c1 k1 k2 k3=>by
   have:=Zbq hx
   exact ih x c1 (by omega) (by omega) k2 k3 (by omega)
  by_cases ho:t.Op = 22
  ·rw [ZnA (by simp [ho])]
   have hv:vrs t = [(t.Name,t.W)]:=by rw [XR,ZnC ho]
   have hrun:runV (tab c.widths) (vrs t) = stp (tab c.widths) (t.Name,t.W):=by
    rw [hv]; simp only [runV]; cases stp (tab c.widths) (t.Name,t.W) <;> rfl
   have hks:t.Kids = []:=by
    rw [ho] at hl
    exact ZpD.1 (by have:kc 22 = 0:=rfl; omega)
   obtain ⟨b,m,e1,e2,e3⟩:=ZX (n:=n) (c:=⟨c.count + 1,c.widths⟩) (t:=t) (by omega) (by omega) hw (by simp only; omega)
   rw [e1]
   simp only [Zn4]
   rw [ho] at hloc
   cases b with
   | false=>
    refine ⟨false,_,rfl,fun h=>(by cases h),fun _=>?_⟩
    rcases e3 rfl with e3 | e3
    ·exact bad (by rw [hb,hloc,e3]; simp)
    ·rw [hrun]
     simp only at e3
     rw [e3]
     exact fun ⟨_,_,h⟩=>by cases h
   | true=>
    obtain ⟨e4,e5⟩:=e2 rfl
    simp only at e5
    have hml:(tab m).length ≤ c.count + 1:=by have:=Zia e5; omega
    obtain ⟨r,g1,g2⟩:=Zfu (n:=n) (ks:=t.Kids) (c0:=c.count + 1) (w0:=m) (by omega) (by omega) (by omega) (by omega) hml ih'
    rw [hks,ZaX,ZaD] at g2
    have hcn:cnts t.Kids = 0:=by rw [hks,ZaX]
    have hnb:nodesB t.Kids = true:=by rw [hks,Yl]; rfl
    simp only [ZnY,Zn6,ZnI]
    rw [g1]
    rcases g2 with ⟨cc,ww,rfl,k1,k2,k3,k4⟩ | ⟨c',rfl,k1⟩
    ·refine ⟨true, ⟨cc, ww⟩, rfl, fun _ => ⟨by omega, ?_, by simp only; omega, ?_⟩, fun h => (by cases h)⟩
     ·rw [hb,hloc,e4,hnb]; simp
     ·rw [hrun, e5]
      simp only [runV,Option.some.injEq] at k4
      rw [k4]
    ·exfalso
     apply k1
     refine ⟨by omega,by rw [Yl]; rfl,rfl⟩
  ·rw [ZnC (by simp [ho])]
   have hv:vrs t = vrss t.Kids:=by rw [XR,ZnA ho]
   by_cases c8:Str.eqb t.Name ⟨[]⟩ = true
   rotate_left
   ·rw [ZnC (by simpa using c8)]
    refine ⟨false,_,rfl,fun h=>(by cases h),fun _=>bad ?_⟩
    rw [hb,hloc]
    simp [c8,ho]
   rw [ZnA (by simp [c8])]
   have hloc':locB t = true:=by rw [hloc,c8]; simp [ho]
   obtain ⟨r,g1,g2⟩:=Zfu (n:=n) (ks:=t.Kids) (c0:=c.count + 1) (w0:=c.widths) (by omega) (by omega) (by omega) (by omega) (by omega) ih'
   rw [g1,hv,hb,hloc']
   simp only [ZoK]
   rcases g2 with ⟨cc,ww,rfl,k1,k2,k3,k4⟩ | ⟨c',rfl,k1⟩
   ·exact ⟨true,⟨cc,ww⟩,rfl,fun _=>⟨by omega,k3,by simp only; omega,k4⟩,fun h=>(by cases h)⟩
   ·exact ⟨false,c',rfl,fun h=>(by cases h),fun _ ⟨h1,h2,h3⟩=>k1 ⟨by omega,h2,h3⟩⟩
theorem Zce {t:D.Term} (h:msz t ≤ 1048576):YV fuel t = some (termB t):=by
 unfold YV
 obtain ⟨b,c',e1,e2,e3⟩:=ZjL fuel t ⟨0,none⟩ h (by simp) (by simp) (by simp [tab]) (by unfold fuel; simp)
 rw [e1]
 simp only [Zn4,Option.some.injEq]
 unfold termB
 simp only [tab,Option.getD_none] at e2 e3
 cases b with
 | true=>
  obtain ⟨h1,h2,-,h3⟩:=e2 rfl
  rw [h2,h3,decide_eq_true (by omega)]; rfl
 | false=>
  have:=e3 rfl
  cases hb:nodeB t
  ·simp
  ·cases hr : (runV [] (vrs t)).isSome
   ·simp
   ·have : ¬ cnt t ≤ 240 := fun hc => this ⟨by omega, hb, hr⟩
    simp [this]
theorem ZgU {w:Int} (h1:1 ≤ w) (h2:w ≤ 16):w = 1 ∨ w = 2 ∨ w = 3 ∨ w = 4 ∨ w = 5 ∨ w = 6 ∨ w = 7 ∨ w = 8 ∨ w = 9 ∨ w = 10 ∨ w = 11 ∨ w = 12 ∨ w = 13 ∨ w = 14 ∨ w = 15 ∨ w = 16:=by omega
theorem ZbY {w:Int} (h1:1 ≤ w) (h2:w ≤ 16):shl? 1 w = some (2 ^ w.toNat) ∧ shl? 1 (IntKind.u64.wrap w) = some (2 ^ w.toNat) ∧ w64 ((2:Int) ^ w.toNat - 1) = 2 ^ w.toNat - 1 ∧ (2:Int) ≤ 2 ^ w.toNat ∧ (2:Int) ^ w.toNat ≤ 65536:=by
 rcases ZgU h1 h2 with rfl | rfl | rfl | rfl | rfl | rfl | rfl | rfl | rfl | rfl | rfl | rfl | rfl | rfl | rfl | rfl <;> exact ⟨rfl,rfl,by decide,by decide,by decide⟩
theorem Zez {w:Int} (h1:1 ≤ w) (h2:w ≤ 16) (v:Int):wordB w v = true ↔ 0 ≤ v ∧ v < 2 ^ w.toNat:=by
 obtain ⟨a1,a2,a3,a4,a5⟩:=ZbY h1 h2
 have hs:=Zcc w v
 unfold Z9 Zl at hs
 have e:(decide (w ≥ 1) && decide (w ≤ 16)) = true:=by simp; omega
 simp only [e,Zn4] at hs
 by_cases hv:0 ≤ v
 ·simp only [hv, decide_true, ZnV, a1, Zn4] at hs
  rw [a3] at hs
  simp at hs
  rw [← hs]; simp [hv]; omega
 ·simp [hv, a1] at hs
  rw [hs]; simp; omega
theorem ZeL (x:Int) {y:Int} (h:0 ≤ y):shr? x y = some (x.fdiv (2 ^ min y.toNat 64)):=by unfold shr?; rw [ZnA (by omega)]
theorem Zh4 (x:Int) {y:Int} (h:0 ≤ y):shl? x y = some (w64 (x * 2 ^ min y.toNat 64)):=by unfold shl?; rw [ZnA (by omega)]
def fnd (v:List D.Value) (s:Str):Option D.Value:=v.find? fun x=>decide (x.Name = s)
theorem Zj7 {n:Nat} {v:List D.Value} {s:Str} (hn:v.length < n) (hv:v.length ≤ 1048576):(fnd v s = none ∧ Xy n v s = some (-1)) ∨ ∃ (k:Nat) (x:D.Value),fnd v s = some x ∧ v[k]? = some x ∧ Xy n v s = some (k:Int):=by
 unfold Xy
 obtain ⟨r,g1,g2⟩:=Yk (l:=v) (n:=n) (σ:=Unit) (ρ:=Unit ⊕ Int) (B:=fun (s1:Int)=>
  if (decide (s1 < (len v))) then
   (get? v s1).bind fun x1=>
   if (Str.eqb x1.Name s) then
    some (.inr (.inr s1))
   else
    some (.inl ((w64 (s1 + 1))))
  else
   some (.inr (.inl ()))) (fun k _=>(k:Int)) (fun ys _=>fnd ys s = fnd v s) (fun r=>(fnd v s = none ∧ r = .inl ()) ∨ ∃ (k:Nat) (x:D.Value),fnd v s = some x ∧ v[k]? = some x ∧ r = .inr (k:Int))
  (fun k x xs a hk' hx hlen hi => by
   have hd:decide ((k:Int) < len v) = true:=by rw [Za]; simp; omega
   simp only [hd,ZnV,get?_nat,hx,Zn4,Zbv]
   have hf:fnd (x :: xs) s = if x.Name = s then some x else fnd xs s:=by
    unfold fnd
    by_cases e:x.Name = s <;> simp [Zq2,e]
   rw [hf] at hi
   by_cases e:x.Name = s
   ·rw [ZnC e] at hi
    exact .inr ⟨_,by rw [ZnC (by simpa using e)],.inr ⟨k,x,hi.symm,hx,rfl⟩⟩
   ·rw [ZnA e] at hi
    exact .inl ⟨(),by rw [ZnA (by simpa using e),Ze (by omega) (by omega)]; rfl,hi⟩)
  (fun a hi => by
   have hd:decide ((v.length:Int) < len v) = false:=by rw [Za]; simp
   simp only [hd,Zn6,ZnI]
   exact ⟨_,rfl,.inl ⟨by rw [← hi]; rfl,rfl⟩⟩) (a:=()) rfl hn
 rw [show ((0:Nat):Int) = 0 from rfl] at g1
 rw [g1]
 rcases g2 with ⟨h1,rfl⟩ | ⟨k,x,h1,h2,rfl⟩
 ·exact .inl ⟨h1,rfl⟩
 ·exact .inr ⟨k,x,h1,h2,rfl⟩
theorem Zig {α:Type} {l m:List α} (h:l.length + m.length ≤ 1048576):app? l m = some (l ++ m):=by
 unfold app?; rw [ZnC (by unfold room; omega)]
theorem get0 (x:D.Term) (l:List D.Term):get? (x :: l) 0 = some x:=rfl
theorem get1 (x y:D.Term) (l:List D.Term):get? (x :: y :: l) 1 = some y:=rfl
theorem geti0 (x:Int) (l:List Int):get? (x :: l) 0 = some x:=rfl
theorem geti1 (x y:Int) (l:List Int):get? (x :: y :: l) 1 = some y:=rfl
theorem geti2 (x y z:Int) (l:List Int):get? (x :: y :: z :: l) 2 = some z:=rfl
theorem ZiW {ks:List D.Term} {f:D.Term → Option (Int × Bool)} {g:D.Term → Int × Bool} {n:Nat} (hf:∀ x ∈ ks,f x = some (g x)) (hn:ks.length < n) (hk:ks.length ≤ 1000000) :
  iterN (fun (s1:Int × (List Int))=>
    if (decide (s1.1 < (len ks))) then
     (get? ks s1.1).bind fun x4=>
     (f x4).bind fun x5=>
     if (!x5.2) then
      some (.inr (.inr ((0:Int),false)))
     else
      (app? s1.2 ([x5.1]:List Int)).bind fun x6=>
      some (.inl ((w64 (s1.1 + 1)),x6))
    else
     some (.inr (.inl (s1.2)))
   ) n (0,([]:List Int)) = some (if ks.all (fun x=>(g x).2) = true then (.inl (ks.map fun x=>(g x).1):List Int ⊕ (Int × Bool)) else .inr ((0:Int),false)):=by
 obtain ⟨r,g1,g2⟩:=Yk (l:=ks) (n:=n) (σ:=List Int) (ρ:=List Int ⊕ (Int × Bool)) (B:=fun (s1:Int × (List Int))=>
    if (decide (s1.1 < (len ks))) then
     (get? ks s1.1).bind fun x4=>
     (f x4).bind fun x5=>
     if (!x5.2) then
      some (.inr (.inr ((0:Int),false)))
     else
      (app? s1.2 ([x5.1]:List Int)).bind fun x6=>
      some (.inl ((w64 (s1.1 + 1)),x6))
    else
     some (.inr (.inl (s1.2)))) (fun k a=>((k:Int),a)) (fun ys a=>∃ pre,pre ++ ys = ks ∧ a = pre.map (fun x=>(g x).1) ∧ pre.all (fun x=>(g x).2) = true)
   (fun r=>r = if ks.all (fun x=>(g x).2) = true then (.inl (ks.map fun x=>(g x).1):List Int ⊕ (Int × Bool)) else .inr ((0:Int),false))
   (fun k x xs a hk' hx hlen ⟨pre, h1, h2, h3⟩ => by
    have hd:decide ((k:Int) < len ks) = true:=by rw [Za]; simp; omega
    have hpl:pre.length ≤ ks.length:=by rw [← h1]; simp
    simp only [hd,ZnV,get?_nat,hx,Zn4,hf x (ZnN hx)]
    cases hb:(g x).2
    ·refine .inr ⟨_, rfl, ?_⟩
     have:ks.all (fun x=>(g x).2) = false:=by rw [← h1,List.all_append,Zqy,hb]; simp
     rw [this]; rfl
    ·refine .inl ⟨a ++ [(g x).1], ?_, pre ++ [x], by rw [Zoh]; exact h1, by rw [h2]; simp, by rw [List.all_append, h3]; simp [hb]⟩
     simp only [ZnY,Zn6,ZnI]
     rw [Zig (by rw [h2]; simp; omega),Ze (by omega) (by omega)]; rfl)
   (fun a ⟨pre, h1, h2, h3⟩ => by
    have hd:decide ((ks.length:Int) < len ks) = false:=by rw [Za]; simp
    simp only [hd,Zn6,ZnI]
    rw [Zoz] at h1
    subst h1
    exact ⟨_,rfl,by rw [h3,ZnC rfl,h2]⟩) (a:=[]) ⟨[],rfl,rfl,rfl⟩ hn
 rw [show ((0:Nat):Int) = 0 from rfl] at g1
 rw [g1,g2]
theorem Y3 {op w m:Int} {nm:Str} {ks:List D.Term} (h:nodeB ⟨op,w,m,nm,ks⟩ = true):(1 ≤ w ∧ w ≤ 16) ∧ (
  (op = 0 ∧ ks = [] ∧ nm = ⟨[]⟩ ∧ wordB w m = true) ∨
  (op = 22 ∧ ks = [] ∧ m = 0) ∨
  ((op = 1 ∨ op = 2) ∧ m = 0 ∧ nm = ⟨[]⟩ ∧ ∃ a,ks = [a] ∧ nodeB a = true ∧ a.W = w) ∨
  (3 ≤ op ∧ op ≤ 16 ∧ m = 0 ∧ nm = ⟨[]⟩ ∧ ∃ a b,ks = [a,b] ∧ nodeB a = true ∧ nodeB b = true ∧ a.W = b.W ∧ (op ≤ 13 → a.W = w) ∧ (14 ≤ op → w = 1)) ∨
  (op = 17 ∧ m = 0 ∧ nm = ⟨[]⟩ ∧ ∃ a b c,ks = [a,b,c] ∧ nodeB a = true ∧ nodeB b = true ∧ nodeB c = true ∧ a.W = 1 ∧ b.W = w ∧ c.W = w) ∨
  (op = 18 ∧ m = 0 ∧ nm = ⟨[]⟩ ∧ ∃ a b,ks = [a,b] ∧ nodeB a = true ∧ nodeB b = true ∧ a.W + b.W = w) ∨
  (op = 19 ∧ nm = ⟨[]⟩ ∧ 0 ≤ m ∧ m ≤ 16 ∧ ∃ a,ks = [a] ∧ nodeB a = true ∧ m + w ≤ a.W) ∨
  ((op = 20 ∨ op = 21) ∧ m = 0 ∧ nm = ⟨[]⟩ ∧ ∃ a,ks = [a] ∧ nodeB a = true ∧ a.W ≤ w)):=by
 rw [Zam,ZnB] at h
 obtain ⟨h,hk⟩:=h
 unfold locB at h
 simp only [ZnB,ZnO,Zo6,ZoN,Zbv] at h
 obtain ⟨⟨⟨hw,hn⟩,hm⟩,h⟩:=h
 refine ⟨hw,?_⟩
 simp only at hk
 unfold shB at h
 by_cases o0:op = 0
 ·rw [ZnC o0] at h
  simp only [ZnB,List.isEmpty_iff,List.map_eq_nil_iff] at h
  exact .inl ⟨o0,h.1,by rcases hn with hn | hn; exact hn; omega,h.2⟩
 rw [ZnA o0] at h
 by_cases o1:op = 22
 ·rw [ZnC o1] at h
  simp only [ZnB,List.isEmpty_iff,List.map_eq_nil_iff] at h
  exact .inr (.inl ⟨o1,h.1,by omega⟩)
 rw [ZnA o1] at h
 have hn:nm = ⟨[]⟩:=by rcases hn with hn | hn; exact hn; exact absurd hn o1
 have hm:op ≠ 19 → m = 0:=fun o=>by omega
 clear o0 o1
 have k1:∀ f:Int → Bool,(match ks.map (·.W) with | [a]=>f a | _=>false) = true → ∃ a,ks = [a] ∧ nodeB a = true ∧ f a.W = true:=fun f h=>by
  rcases ks with _ | ⟨a,_ | ⟨b,l⟩⟩ <;> simp at h
  rw [Yl] at hk; simp at hk
  exact ⟨a,rfl,hk,h⟩
 have k2:∀ f:Int → Int → Bool,(match ks.map (·.W) with | [a,b]=>f a b | _=>false) = true → ∃ a b,ks = [a,b] ∧ nodeB a = true ∧ nodeB b = true ∧ f a.W b.W = true:=fun f h=>by
  rcases ks with _ | ⟨a,_ | ⟨b,_ | ⟨c,l⟩⟩⟩ <;> simp at h
  rw [Yl] at hk; simp at hk
  exact ⟨a,b,rfl,hk.1,hk.2,h⟩
 have k3:∀ f:Int → Int → Int → Bool,(match ks.map (·.W) with | [a,b,c]=>f a b c | _=>false) = true → ∃ a b c,ks = [a,b,c] ∧ nodeB a = true ∧ nodeB b = true ∧ nodeB c = true ∧ f a.W b.W c.W = true:=fun f h=>by
  rcases ks with _ | ⟨a,_ | ⟨b,_ | ⟨c,_ | ⟨d,l⟩⟩⟩⟩ <;> simp at h
  rw [Yl] at hk; simp at hk
  exact ⟨a,b,c,rfl,hk.1,hk.2.1,hk.2.2,h⟩
 by_cases o2:1 ≤ op ∧ op ≤ 2
 ·rw [ZnC o2] at h
  obtain ⟨a,ha,hb,hf⟩:=k1 (fun a=>a == w) h
  exact .inr (.inr (.inl ⟨by omega,hm (by omega),hn,a,ha,hb,by simpa using hf⟩))
 rw [ZnA o2] at h
 by_cases o3:3 ≤ op ∧ op ≤ 13
 ·rw [ZnC o3] at h
  obtain ⟨a,b,ha,hb,hc,hf⟩:=k2 (fun a b=>a == w && b == w) h
  simp only [ZnB,ZoN] at hf
  exact .inr (.inr (.inr (.inl ⟨by omega,by omega,hm (by omega),hn,a,b,ha,hb,hc,by omega,by omega,by omega⟩)))
 rw [ZnA o3] at h
 by_cases o4:14 ≤ op ∧ op ≤ 16
 ·rw [ZnC o4] at h
  obtain ⟨a,b,ha,hb,hc,hf⟩:=k2 (fun a b=>a == b && w == 1) h
  simp only [ZnB,ZoN] at hf
  exact .inr (.inr (.inr (.inl ⟨by omega,by omega,hm (by omega),hn,a,b,ha,hb,hc,hf.1,by omega,by omega⟩)))
 rw [ZnA o4] at h
 by_cases o5:op = 17
 ·rw [ZnC o5] at h
  obtain ⟨a,b,c,ha,hb,hc,hd,hf⟩:=k3 (fun a b c=>a == 1 && b == w && c == w) h
  simp only [ZnB,ZoN] at hf
  exact .inr (.inr (.inr (.inr (.inl ⟨o5,hm (by omega),hn,a,b,c,ha,hb,hc,hd,hf.1.1,hf.1.2,hf.2⟩))))
 rw [ZnA o5] at h
 by_cases o6:op = 18
 ·rw [ZnC o6] at h
  obtain ⟨a,b,ha,hb,hc,hf⟩:=k2 (fun a b=>a + b == w) h
  exact .inr (.inr (.inr (.inr (.inr (.inl ⟨o6,hm (by omega),hn,a,b,ha,hb,hc,by simpa using hf⟩)))))
 rw [ZnA o6] at h
 by_cases o7:op = 19
 ·rw [ZnC o7] at h
  obtain ⟨a,ha,hb,hf⟩:=k1 (fun a=>decide (0 ≤ m ∧ m ≤ 16) && decide (m + w ≤ a)) h
  simp only [ZnB,ZnO] at hf
  exact .inr (.inr (.inr (.inr (.inr (.inr (.inl ⟨o7,hn,hf.1.1,hf.1.2,a,ha,hb,hf.2⟩))))))
 rw [ZnA o7] at h
 by_cases o8:20 ≤ op ∧ op ≤ 21
 ·rw [ZnC o8] at h
  obtain ⟨a,ha,hb,hf⟩:=k1 (fun a=>decide (a ≤ w)) h
  exact .inr (.inr (.inr (.inr (.inr (.inr (.inr ⟨by omega,hm (by omega),hn,a,ha,hb,by simpa using hf⟩))))))
 rw [ZnA o8] at h; cases h
open Cc (BS LS CircP Grow GoodL Good litN lines negs seqP ifP opP net RelB FOk)
def bitI (v:Int) (k:Nat):Bool:=match shr? v (k:Int) with | some x=>band x 1 == 1 | none=>false
def wordL (w:Nat) (v:Int):List Int:=(List.range w).map fun k=>if bitI v k then 1 else -1
theorem Za7 (w:Nat) (v:Int):(wordL w v).length = w:=by simp [wordL]
def atV:List D.Value → Int → Str → Int
 | [],a,_=>a
 | v :: l,a,s=>if Str.eqb v.Name s then a + v.W else atV l (a + v.W) s
def varL (vs:List D.Value) (s:Str) (w:Nat):List Int:=(List.range w).map fun k:Nat=>atV vs 1 s - (k:Int)
theorem Ze1 (vs:List D.Value) (s:Str) (w:Nat):(varL vs s w).length = w:=by simp [varL]
def fin (op:Int) (w m:Nat) (ks:List (List Int)) (s:BS):LS:=
 if op = 1 then (negs (ks.getD 0 []),s)
 else if op = 2 then if w = 16 then (List.replicate w (-1),(s.1,true)) else opP s 4 (List.replicate w (-1)) (ks.getD 0 [])
 else if op = 17 then seqP (fun s p=>ifP s ((ks.getD 0 []).getD 0 0) p.1 p.2) s ((ks.getD 1 []).zip (ks.getD 2 []))
 else if op = 18 then (ks.getD 1 [] ++ ks.getD 0 [],s)
 else if op = 19 then (((ks.getD 0 []).drop m).take w,s)
 else if op = 20 then (ks.getD 0 [] ++ List.replicate (w - (ks.getD 0 []).length) (-1),s)
 else if op = 21 then (ks.getD 0 [] ++ List.replicate (w - (ks.getD 0 []).length) ((ks.getD 0 []).getD ((ks.getD 0 []).length - 1) 0),s)
 else if (ks.getD 0 []).length = 16 then (List.replicate w (-1),(s.1,true)) else opP s op (ks.getD 0 []) (ks.getD 1 [])
mutual
def nP (vs:List D.Value):D.Term → BS → LS
 | ⟨op,w,m,nm,ks⟩,s=>if op = 0 then (wordL w.toNat m,s) else if op = 22 then (varL vs nm w.toNat,s) else let r:=nPs vs ks s; fin op w.toNat m.toNat r.1 r.2
def nPs (vs:List D.Value):List D.Term → BS → List (List Int) × BS
 | [],s=>([],s)
 | t :: l,s=>let r:=nP vs t s; let q:=nPs vs l r.2; (r.1 :: q.1,q.2)
end
theorem Zio (vs:List D.Value) (t:D.Term) (s:BS):nP vs t s = if t.Op = 0 then (wordL t.W.toNat t.N,s) else if t.Op = 22 then (varL vs t.Name t.W.toNat,s) else fin t.Op t.W.toNat t.N.toNat (nPs vs t.Kids s).1 (nPs vs t.Kids s).2:=by cases t; rw [nP]
theorem ZfZ (vs:List D.Value) (s:BS):nPs vs [] s = ([],s):=by rw [nPs]
theorem ZcD (vs:List D.Value) (t:D.Term) (l:List D.Term) (s:BS):nPs vs (t :: l) s = ((nP vs t s).1 :: (nPs vs l (nP vs t s).2).1,(nPs vs l (nP vs t s).2).2):=by rw [nPs]
structure VF (vs:List D.Value) (c:D.Circuit):Prop where
 w1:∀ v ∈ vs,1 ≤ v.W
 sum:(vs.map (·.W)).foldl (· + ·) 0 = c.Inputs
def TV (vs:List D.Value) (t:D.Term):Prop:=∀ p ∈ vrs t,∃ v ∈ vs,v.Name = p.1 ∧ v.W = p.2
open Cc (BS LS CircP Grow GoodL Good litN lines negs seqP ifP opP net RelB FOk XD Yr litN_iff litN_mono ZB)
theorem ZmC {vs:List D.Value} {s:Str} (h1:∀ v ∈ vs,1 ≤ v.W):∀ {a:Int},a ≤ atV vs a s ∧ atV vs a s ≤ (vs.map (·.W)).foldl (· + ·) a:=by
 induction vs with
 | nil=>intro a; simp [atV]
 | cons v l ih=>
  intro a
  have hv:=h1 v (by simp)
  have hf:∀ (l:List D.Value) (a:Int),(∀ v ∈ l,1 ≤ v.W) → a ≤ (l.map (·.W)).foldl (· + ·) a:=fun l=>by
   induction l with
   | nil=>intro a _; simp
   | cons x l ih=>intro a hx; have:=ih (a + x.W) (fun v hv=>hx v (by simp [hv])); have:=hx x (by simp); simp only [ZnE,Zo5]; omega
  unfold atV
  simp only [ZnE,Zo5]
  split
  ·have:=hf l (a + v.W) (fun v hv=>h1 v (by simp [hv])); omega
  ·have:=ih (fun v hv=>h1 v (by simp [hv])) (a:=a + v.W); omega
theorem Zke {s:Str} {w:Int}:∀ {vs:List D.Value} {a:Int},(∀ v ∈ vs,1 ≤ v.W) → vs.Pairwise (fun x y=>x.Name ≠ y.Name) → (∃ v ∈ vs,v.Name = s ∧ v.W = w) → a + w ≤ atV vs a s
 | [],a,_,_,⟨v,hv,_⟩=>by cases hv
 | v :: l,a,h1,hp,⟨x,hx,hn,hw⟩=>by
  unfold atV
  rw [Zpq] at hp
  by_cases c:v.Name = s
  ·have e : Str.eqb v.Name s = true := by rw [c]; exact ZbM s
   rw [ZnC e]
   rcases Zof.1 hx with rfl | hx
   ·omega
   ·exact absurd (c.trans hn.symm) (hp.1 x hx)
  ·have e : Str.eqb v.Name s = false := by rw [Zbv]; simpa using c
   rw [e]
   simp only [Zn6,ZnI]
   rcases Zof.1 hx with rfl | hx
   ·exact absurd hn c
   ·have := Zke (a := a + v.W) (fun v hv => h1 v (by simp [hv])) hp.2 ⟨x, hx, hn, hw⟩
    have:=h1 v (by simp)
    omega
theorem Zd2:∀ (l:List Int) (a b:Int),l.foldl (· + ·) (a + b) = a + l.foldl (· + ·) b
 | [],a,b=>rfl
 | x :: l,a,b=>by simp only [Zo5]; rw [Int.add_assoc]; exact Zd2 l a (b + x)
theorem Zlw {vs:List D.Value} {s:BS} {nm:Str} {w:Int} (hs:CircP s.1) (hv:VF vs s.1) (hp:vs.Pairwise fun x y=>x.Name ≠ y.Name) (h:∃ v ∈ vs,v.Name = nm ∧ v.W = w) (hw:1 ≤ w):GoodL s w.toNat (varL vs nm w.toNat,s):=by
 refine ⟨hs,Grow.refl _,Ze1 _ _ _,fun x hx=>?_⟩
 unfold varL at hx
 obtain ⟨k,hk,rfl⟩:=ZoB.1 hx
 have hk:=Zoa.1 hk
 have h1:=Zke (a:=1) hv.w1 hp h
 have h2:=(ZmC (s:=nm) hv.w1 (a:=1)).2
 have h3:=Zd2 (vs.map (·.W)) 1 0
 rw [show (1:Int) + 0 = 1 from rfl,hv.sum] at h3
 rw [h3] at h2
 rw [litN_iff]
 show 1 ≤ Cc.iab (atV vs 1 nm - (k:Int)) ∧ Cc.iab (atV vs 1 nm - (k:Int)) ≤ s.1.Inputs + 1 + (s.1.Gates.length:Int)
 unfold Cc.iab
 have:=hs.i0
 constructor <;> split <;> omega
theorem Zjc {s:BS} {w:Nat} {v:Int} (hs:CircP s.1):GoodL s w (wordL w v,s):=by
 refine ⟨hs,Grow.refl _,Za7 _ _,fun x hx=>?_⟩
 unfold wordL at hx
 obtain ⟨k,hk,rfl⟩:=ZoB.1 hx
 split
 ·exact XD hs
 ·exact Yr hs
def K2 (s:BS) (t:D.Term) (l:List Int):Prop:=l.length = t.W.toNat ∧ ∀ x ∈ l,litN (lines s.1) x = true
def KK (s:BS):List D.Term → List (List Int) → Prop
 | [],[]=>True
 | t :: ts,l :: ls=>K2 s t l ∧ KK s ts ls
 | _,_=>False
theorem KK1 {s:BS} {t:D.Term} {ts:List D.Term} {ls:List (List Int)} (h:KK s (t :: ts) ls):∃ l l',K2 s t l ∧ KK s ts l' ∧ ls = l :: l':=by
 cases ls with
 | nil=>exact h.elim
 | cons l l'=>exact ⟨l,l',h.1,h.2,rfl⟩
theorem KK0 {s:BS} {ls:List (List Int)} (h:KK s [] ls):ls = []:=by
 cases ls with
 | nil=>rfl
 | cons l l'=>exact h.elim
theorem K2.mono {s s':BS} {t:D.Term} {l:List Int} (h:K2 s t l) (g:Grow s.1 s'.1):K2 s' t l:=⟨h.1,fun x hx=>litN_mono (h.2 x hx) g.lines⟩
theorem Zg7 {s:BS} {w:Nat} (hs:CircP s.1) (f:Bool):GoodL s w (List.replicate w (-1),(s.1,f)):=⟨hs,Grow.refl _,by simp,fun x hx=>by rw [(Zqa.1 hx).2]; exact Yr hs⟩
theorem ZcR {s:BS} {w:Nat} (hs:CircP s.1):∀ x ∈ List.replicate w (-1:Int),litN (lines s.1) x = true:=fun x hx=>by rw [(Zqa.1 hx).2]; exact Yr hs
theorem ZkK {s:BS} {c:Int} {a b:List Int} (hs:CircP s.1) (hc:litN (lines s.1) c = true) (ha:∀ x ∈ a,litN (lines s.1) x = true) (hb:∀ x ∈ b,litN (lines s.1) x = true):FOk (fun s p=>ifP s c p.1 p.2) s (a.zip b):=fun s' p hc' hg hp=>by
 have h1:=Zqg hp
 exact Cc.if_good hc' (litN_mono hc hg.lines) (litN_mono (ha _ h1.1) hg.lines) (litN_mono (hb _ h1.2) hg.lines)
theorem fin_good {s:BS} {t:D.Term} {ls:List (List Int)} (hb:nodeB t = true) (hs:CircP s.1) (h0:t.Op ≠ 0) (h22:t.Op ≠ 22) (hk:KK s t.Kids ls):GoodL s t.W.toNat (fin t.Op t.W.toNat t.N.toNat ls s):=by
 obtain ⟨op,w,m,nm,ks⟩:=t
 obtain ⟨hw,hsh⟩:=Y3 hb
 simp only at h0 h22 hk ⊢
 rcases hsh with ⟨rfl,-⟩ | ⟨rfl,-⟩ | ⟨ho,-,-,a,rfl,ha,haw⟩ | ⟨h3,h16,-,-,a,b,rfl,ha,hb',hab,h13,h14⟩ | ⟨rfl,-,-,a,b,c,rfl,ha,hb',hc,ha1,hbw,hcw⟩ | ⟨rfl,-,-,a,b,rfl,ha,hb',habw⟩ | ⟨rfl,-,hm0,hm1,a,rfl,ha,haw⟩ | ⟨ho,-,-,a,rfl,ha,haw⟩
 ·exact absurd rfl h0
 ·exact absurd rfl h22
 ·obtain ⟨la, r1, k1, hn1, rfl⟩ := KK1 hk
  obtain rfl:=KK0 hn1
  have hl:la.length = w.toNat:=by rw [k1.1,haw]
  unfold fin
  simp only [Zob]
  rcases ho with rfl | rfl
  ·simp only [ZnV]
   exact ⟨hs,Grow.refl _,by rw [Cc.negs_len,hl],Cc.negs_lits k1.2⟩
  ·simp only [show ¬ ((2 : Int) = 1) by decide, ZnI, ZnV]
   split
   ·exact Zg7 hs true
   ·rename_i h16
    have:=Cc.op_good hs (op:=4) (a:=List.replicate w.toNat (-1)) (b:=la) (by omega) (by simp [hl]) (by simp; omega) (by simp; omega) (ZcR hs) k1.2
    simpa [Cc.opW] using this
 ·obtain ⟨la, r1, k1, hn1, rfl⟩ := KK1 hk
  obtain ⟨lb,r2,k2,hn2,rfl⟩:=KK1 hn1
  obtain rfl:=KK0 hn2
  have hA:=Yf ha
  unfold fin
  simp only [Zob,Zot]
  rw [ZnA (by omega),ZnA (by omega),ZnA (by omega),ZnA (by omega),ZnA (by omega),ZnA (by omega),ZnA (by omega)]
  split
  ·exact Zg7 hs true
  ·rename_i h16'
   have:=Cc.op_good hs (op:=op) (a:=la) (b:=lb) ⟨h3,h16⟩ (by rw [k1.1,k2.1,hab]) (by have:=k1.1; omega) (by have:=k1.1; omega) k1.2 k2.2
   have e:Cc.opW op la.length = w.toNat:=by
    unfold Cc.opW; split
    ·rw [h14 (by omega)]; rfl
    ·rw [k1.1,h13 (by omega)]
   rw [e] at this; exact this
 ·obtain ⟨la, r1, k1, hn1, rfl⟩ := KK1 hk
  obtain ⟨lb,r2,k2,hn2,rfl⟩:=KK1 hn1
  obtain ⟨lc,r3,k3,hn3,rfl⟩:=KK1 hn2
  obtain rfl:=KK0 hn3
  unfold fin
  simp only [Zob,Zot]
  rw [ZnA (by omega),ZnA (by omega),ZnC (by trivial)]
  have hc0:litN (lines s.1) (la.getD 0 0) = true:=k1.2 _ (Cc.getD_mem (by have:=k1.1; rw [ha1] at this; simp at this; omega))
  have g:=Cc.seq_good hs (ZkK hs hc0 k2.2 k3.2)
  rw [Zo7,k2.1,k3.1,hbw,hcw,ZpH] at g
  exact g
 ·obtain ⟨la, r1, k1, hn1, rfl⟩ := KK1 hk
  obtain ⟨lb,r2,k2,hn2,rfl⟩:=KK1 hn1
  obtain rfl:=KK0 hn2
  have hA:=Yf ha
  have hB:=Yf hb'
  unfold fin
  simp only [Zob,Zot]
  rw [ZnA (by omega),ZnA (by omega),ZnA (by omega),ZnC (by trivial)]
  exact ⟨hs,Grow.refl _,by rw [ZnD,k1.1,k2.1]; omega,fun x hx=>(ZnS.1 hx).elim (k2.2 x) (k1.2 x)⟩
 ·obtain ⟨la, r1, k1, hn1, rfl⟩ := KK1 hk
  obtain rfl:=KK0 hn1
  unfold fin
  simp only [Zob]
  rw [ZnA (by omega),ZnA (by omega),ZnA (by omega),ZnA (by omega),ZnC (by trivial)]
  exact ⟨hs,Grow.refl _,by rw [ZnF,Zoe,k1.1]; omega,fun x hx=>k1.2 x (ZoH (ZoV hx))⟩
 ·obtain ⟨la, r1, k1, hn1, rfl⟩ := KK1 hk
  obtain rfl:=KK0 hn1
  have hA:=Yf ha
  unfold fin
  simp only [Zob]
  rcases ho with rfl | rfl
  ·rw [ZnA (by omega), ZnA (by omega), ZnA (by omega), ZnA (by omega), ZnA (by omega), ZnC (by trivial)]
   exact ⟨hs,Grow.refl _,by rw [ZnD,Zos,k1.1]; omega,fun x hx=>(ZnS.1 hx).elim (k1.2 x) (ZcR hs x)⟩
  ·rw [ZnA (by omega), ZnA (by omega), ZnA (by omega), ZnA (by omega), ZnA (by omega), ZnA (by omega), ZnC (by trivial)]
   refine ⟨hs,Grow.refl _,by rw [ZnD,Zos,k1.1]; omega,fun x hx=>(ZnS.1 hx).elim (k1.2 x) fun h=>?_⟩
   rw [(Zqa.1 h).2]
   exact k1.2 _ (Cc.getD_mem (by have:=k1.1; omega))
theorem KK.mono {s s':BS} (g:Grow s.1 s'.1):∀ {ts:List D.Term} {ls:List (List Int)},KK s ts ls → KK s' ts ls
 | [],[],_=>trivial
 | [],_ :: _,h=>h.elim
 | _ :: _,[],h=>h.elim
 | _ :: _,_ :: _,h=>⟨h.1.mono g,KK.mono g h.2⟩
theorem VF.mono {vs:List D.Value} {c c':D.Circuit} (h:VF vs c) (g:Grow c c'):VF vs c':=⟨h.w1,h.sum.trans g.inputs.symm⟩
theorem Zc2 {vs:List D.Value} {t x:D.Term} (h:TV vs t) (ho:t.Op ≠ 22) (hx:x ∈ t.Kids):TV vs x:=fun p hp=>by
 refine h p ?_
 rw [XR,ZnA ho]
 have:∀ {l:List D.Term},x ∈ l → p ∈ vrss l:=fun {l}=>by
  induction l with
  | nil=>intro h; cases h
  | cons y l ih=>
   intro hy
   rw [Xj,ZnS]
   rcases Zof.1 hy with rfl | hy
   ·exact .inl hp
   ·exact .inr (ih hy)
 exact this hx
theorem Zbf {vs:List D.Value}:∀ (l:List D.Term) (s:BS),(∀ t ∈ l,∀ s:BS,CircP s.1 → VF vs s.1 → GoodL s t.W.toNat (nP vs t s)) → CircP s.1 → VF vs s.1 → CircP (nPs vs l s).2.1 ∧ Grow s.1 (nPs vs l s).2.1 ∧ KK (nPs vs l s).2 l (nPs vs l s).1
 | [],s,_,hs,_=>by rw [ZfZ]; exact ⟨hs,Grow.refl _,trivial⟩
 | t :: l,s,h,hs,hv=>by
  rw [ZcD]
  have g:=h t (by simp) s hs hv
  obtain ⟨q1,q2,q3⟩:=Zbf l (nP vs t s).2 (fun x hx=>h x (by simp [hx])) g.circ (hv.mono g.grow)
  exact ⟨q1,g.grow.trans q2,⟨g.len,fun x hx=>litN_mono (g.lits x hx) q2.lines⟩,q3⟩
theorem nodeK {t:D.Term} (hb:nodeB t = true):∀ x ∈ t.Kids,nodeB x = true:=fun x hx=>by
 rw [Zam,ZnB,Yl,ZnP] at hb
 exact hb.2 x hx
theorem Zci {vs:List D.Value} (hp:vs.Pairwise fun x y=>x.Name ≠ y.Name):∀ (n:Nat) (t:D.Term) (s:BS),cnt t ≤ n → nodeB t = true → TV vs t → CircP s.1 → VF vs s.1 → GoodL s t.W.toNat (nP vs t s):=by
 intro n
 induction n with
 | zero=>intro t s h; have:=Xk t; omega
 | succ n ih=>
  intro t s hc hb ht hs hv
  have hw:=Yf hb
  rw [Zio]
  by_cases h0:t.Op = 0
  ·rw [ZnC h0]; exact Zjc hs
  rw [ZnA h0]
  by_cases h22:t.Op = 22
  ·rw [ZnC h22]
   refine Zlw hs hv hp (ht (t.Name,t.W) ?_) hw.1
   rw [XR,ZnC h22]; simp
  rw [ZnA h22]
  have hcn:=Xk t
  obtain ⟨q1,q2,q3⟩:=Zbf t.Kids s (fun x hx s' hs' hv'=>ih x s' (by have:=Xn hx; omega) (nodeK hb x hx) (Zc2 ht h22 hx) hs' hv') hs hv
  have g:=fin_good hb q1 h0 h22 q3
  exact ⟨g.circ,q2.trans g.grow,g.len,g.lits⟩
open Cc (BS LS CircP Grow GoodL Good litN lines negs seqP ifP opP net RelB FOk FU)
theorem Zkf (v:Int) (k:Nat):∃ x,shr? v (k:Int) = some x ∧ bitI v k = (band x 1 == 1):=by
 have:∃ x,shr? v (k:Int) = some x:=by unfold shr?; rw [ZnA (by omega)]; exact ⟨_,rfl⟩
 obtain ⟨x,hx⟩:=this
 exact ⟨x,hx,by unfold bitI; rw [hx]⟩
theorem Zhv (k:Nat) (v:Int):wordL (k + 1) v = wordL k v ++ [if bitI v k then 1 else -1]:=by unfold wordL; rw [Zpg,Zo2]; rfl
theorem ZhG (w:Nat):wordL w 0 = List.replicate w (-1):=by
 have:∀ k,bitI 0 k = false:=fun k=>by
  have h:shr? 0 (k:Int) = some 0:=by unfold shr?; rw [ZnA (by omega)]; simp
  unfold bitI; rw [h]; exact Cc.band01
 unfold wordL
 simp only [this,Zn6,ZnI]
 rw [List.map_const']; simp
section
variable {fu:Nat} [FU fu]
theorem ZeA {w:Nat} (hw:w ≤ 900) (v:Int):ZW fu (w:Int) v = some (wordL w v):=by
 unfold ZW
 have hmk:mk? (w:Int) (0:Int) = some (List.replicate w 0):=by
  unfold mk?; rw [ZnC ⟨by omega,by unfold room; omega⟩]; rfl
 rw [hmk]
 simp only [Zn4]
 rw [Xv (I:=fun k t=>t = ((k:Int),wordL k v ++ List.replicate (w - k) 0)) (m:=w) (r:=wordL w v) (fun k t hk ht=>?_) (fun t ht=>?_) w 0 _ (by omega) (by simp [wordL]) fu (Cc.lt_fuel (by omega))]
 ·rfl
 all_goals subst ht
 ·refine ⟨_, ?_, rfl⟩
  obtain ⟨x,hx,hb⟩:=Zkf v k
  have e:∀ y:Int,(wordL k v ++ List.replicate (w - k) 0).set k y = (wordL k v ++ [y]) ++ List.replicate (w - (k + 1)) 0:=fun y=>by
   have:=Cc.set_fill (l:=wordL k v) (n:=w - (k + 1)) (x:=y)
   rw [Za7,show w - (k + 1) + 1 = w - k by omega] at this
   exact this
  have e2:∀ y z:Int,((wordL k v ++ [y]) ++ List.replicate (w - (k + 1)) 0).set k z = (wordL k v ++ [z]) ++ List.replicate (w - (k + 1)) 0:=fun y z=>by
   rw [Zoh,ZoL _ _ (by rw [Za7]; omega),Za7,ZoR,Zox,Zpp,Zoh,Zox]
  simp only
  rw [ZnC (by rw [Za]; simp; omega),set?_nat (by simp [Za7]; omega)]
  simp only [Zn4]
  rw [Cc.u64k (by omega),hx]
  simp only [Zn4]
  rw [e,Zhv,hb]
  by_cases c:(band x 1 == 1) = true
  ·rw [ZnC c, ZnC c, set?_nat (by simp [Za7] <;> omega), e2]
   simp only [Zn4]
   rw [Ze (by omega) (by omega)]; rfl
  ·rw [ZnA c,ZnA c,Ze (by omega) (by omega)]; rfl
 ·simp only
  rw [ZnA (by rw [Za]; simp)]
  simp
end
theorem Zic:∀ {l:List D.Value} {a:Int},(∀ v ∈ l,1 ≤ v.W) → a + l.length ≤ (l.map (·.W)).foldl (· + ·) a
 | [],a,_=>by simp
 | v :: l,a,h=>by
  have:=Zic (l:=l) (a:=a + v.W) fun x hx=>h x (by simp [hx])
  have:=h v (by simp)
  simp only [ZnE,Zo5,ZnL]; omega
theorem Zcy {c c':D.Circuit} {x:Int} (h:litN (lines c) x = true) (g:Grow c c'):litN (lines c') x = true:=Cc.litN_mono h g.lines
section
variable {n:Nat} [FU n] {s:BS}
theorem Zms {l:List Int} {m w:Nat} (h:m + w ≤ l.length) (hl:l.length ≤ 1000):cut? l (m:Int) (w64 ((m:Int) + (w:Int))) = some ((l.drop m).take w):=by
 rw [Ze (by omega) (by omega)]
 unfold cut?
 rw [ZnC ⟨by omega,by omega,by omega⟩]
 have e1:((m:Int) + (w:Int)).toNat = m + w:=by omega
 rw [e1,Zoo,ZqC,Nat.add_sub_cancel_left]
theorem Zix {l m:List Int} (h:l.length + m.length ≤ 1000):app? l m = some (l ++ m):=by unfold app?; rw [ZnC (by unfold room; omega)]
theorem g0 {α:Type} {a:α} {l:List α}:get? (a :: l) 0 = some a:=rfl
theorem g1 {α:Type} {a b:α} {l:List α}:get? (a :: b :: l) 1 = some b:=rfl
theorem g2 {α:Type} {a b c:α} {l:List α}:get? (a :: b :: c :: l) 2 = some c:=rfl
theorem ZmK {l:List Int} (h:1 ≤ l.length) (h2:l.length ≤ 1000):get? l (w64 (len l - 1)) = some (l.getD (l.length - 1) 0):=by
 rw [Za,Ze (by omega) (by omega),show (l.length:Int) - 1 = ((l.length - 1:Nat):Int) by omega,get?_nat,Cc.getD_get (by omega)]
end
section
variable {vs:List D.Value} (hp:vs.Pairwise fun x y=>x.Name ≠ y.Name) (hw16:∀ v ∈ vs,v.W ≤ 16)
include hp hw16
end
def wide1 (t:D.Term):Bool:=(t.Op == 2 || decide (3 ≤ t.Op ∧ t.Op ≤ 16)) && (match t.Kids with | a :: _=>a.W == 16 | []=>false)
mutual
def wideB:D.Term → Bool
 | ⟨op,w,m,nm,ks⟩=>wide1 ⟨op,w,m,nm,ks⟩ || wideBs ks
def wideBs:List D.Term → Bool
 | []=>false
 | t :: l=>wideB t || wideBs l
end
theorem ZbT (t:D.Term):wideB t = (wide1 t || wideBs t.Kids):=by cases t; rw [wideB]
theorem ZbO (t:D.Term) (l:List D.Term):wideBs (t :: l) = (wideB t || wideBs l):=by rw [wideBs]
theorem Zbu:wideBs [] = false:=by rw [wideBs]
theorem ZeN {x:D.Term}:∀ {l:List D.Term},wideBs l = false → x ∈ l → wideB x = false
 | y :: l,h,hx=>by
  rw [ZbO,ZpN] at h
  rcases Zof.1 hx with rfl | hx
  ·exact h.1
  ·exact ZeN h.2 hx
theorem Zj5:∀ (n:Nat) (t:D.Term),1048600 + cnt t ≤ n → nodeB t = true → YM n t = some (wideB t):=by
  intro n
  induction n with
  | zero=>intro t h; omega
  | succ n ih =>
    intro t hn hb
    have hcn:=Xk t
    have hkl:t.Kids.length ≤ 3:=by
      obtain ⟨op,w,m,nm,ks⟩:=t
      obtain ⟨-,hsh⟩:=Y3 hb
      rcases hsh with ⟨-,rfl,-⟩ | ⟨-,rfl,-⟩ | ⟨-,-,-,a,rfl,-⟩ | ⟨-,-,-,-,a,b,rfl,-⟩ | ⟨-,-,-,a,b,c,rfl,-⟩ | ⟨-,-,-,a,b,rfl,-⟩ | ⟨-,-,-,-,a,rfl,-⟩ | ⟨-,-,-,a,rfl,-⟩ <;> simp
    have hone:((if (t.Op == 2) then some default else (Xf t.Op)).bind fun x1=>(if ((t.Op == 2) || x1) then (get? t.Kids 0) else some default).bind fun x2=>some (((t.Op == 2) || x1) && (x2.W == 16))) = some (wide1 t):=by
      have hk:(t.Op = 2 ∨ 3 ≤ t.Op ∧ t.Op ≤ 16) → ∃ a l,t.Kids = a :: l:=fun ho=>by
        obtain ⟨op,w,m,nm,ks⟩:=t
        obtain ⟨-,hsh⟩:=Y3 hb
        simp only at ho
        rcases hsh with ⟨rfl,-⟩ | ⟨rfl,-⟩ | ⟨-,-,-,a,rfl,-⟩ | ⟨-,-,-,-,a,b,rfl,-⟩ | ⟨rfl,-⟩ | ⟨rfl,-⟩ | ⟨rfl,-⟩ | ⟨h1,-⟩
        · omega
        · omega
        · exact ⟨_,_,rfl⟩
        · exact ⟨_,_,rfl⟩
        · omega
        · omega
        · omega
        · omega
      unfold wide1 Xf
      by_cases h2:t.Op = 2
      · obtain ⟨a, l, hl⟩ := hk (.inl h2)
        simp [h2,hl,g0]
      · have b2 : (t.Op == 2) = false := by simpa using h2
        by_cases h3:3 ≤ t.Op ∧ t.Op ≤ 16
        · obtain ⟨a, l, hl⟩ := hk (.inr h3)
          simp [b2,hl,g0,h3]
        · have : ¬ (t.Op ≥ 3 ∧ t.Op ≤ 16) := h3
          have e:(decide (t.Op ≥ 3) && decide (t.Op ≤ 16)) = false:=by simp; omega
          simp [b2,e,h3]
    rw [YM,ZbT]
    obtain ⟨y1,hy1,hone⟩:=Zod.1 hone
    obtain ⟨y2,hy2,hone⟩:=Zod.1 hone
    rw [hy1]
    simp only [Zn4]
    rw [hy2]
    simp only [Zn4]
    rw [Option.some.inj hone]
    cases hw1:wide1 t
    · simp only [Zn6, ZnI, Zo4]
      obtain ⟨r,g1,g2⟩:=Yk (l:=t.Kids) (n:=n) (σ:=Unit) (ρ:=Unit ⊕ Bool) (B:=fun (s1:Int)=>
        if (decide (s1 < (len t.Kids))) then
         (get? t.Kids s1).bind fun x3=>
         (YM n x3).bind fun x4=>
         if x4 then
          some (.inr (.inr true))
         else
          some (.inl ((w64 (s1 + 1))))
        else
         some (.inr (.inl ()))) (fun k _=>(k:Int)) (fun ys _=>wideBs ys = wideBs t.Kids ∧ ∀ y ∈ ys,y ∈ t.Kids) (fun r=>r = if wideBs t.Kids = true then (.inr true:Unit ⊕ Bool) else .inl ())
        (fun k x xs a hk hx hlen ⟨h1,h2⟩=>by
          have hd:decide ((k:Int) < len t.Kids) = true:=by rw [Za]; simp; omega
          have hxk:=h2 x (by simp)
          have hc:=Xn hxk
          simp only [hd,ZnV,get?_nat,hx,Zn4,ih x (by omega) (nodeK hb x hxk)]
          rw [ZbO] at h1
          cases hx':wideB x
          · rw [hx'] at h1
            simp only [Zo4] at h1
            simp only [Zn6,ZnI]
            exact .inl ⟨(),by rw [Ze (by omega) (by omega)]; rfl,h1,fun y hy=>h2 y (by simp [hy])⟩
          · rw [hx'] at h1
            simp only [Zq9] at h1
            exact .inr ⟨_,rfl,by rw [← h1]; rfl⟩)
        (fun a ⟨h1,_⟩=>by
          have hd:decide ((t.Kids.length:Int) < len t.Kids) = false:=by rw [Za]; simp
          simp only [hd,Zn6,ZnI]
          rw [Zbu] at h1
          exact ⟨_,rfl,by rw [← h1]; rfl⟩) (a:=()) ⟨rfl,fun _ h=>h⟩ (by omega)
      rw [show ((0:Nat):Int) = 0 from rfl] at g1
      rw [g1,g2]
      cases wideBs t.Kids <;> rfl
    · rfl
theorem Zgv {n:Nat} {x:Int} {w:Nat} (hw:w ≤ 16):∀ (d:Nat) (l:List Int),l.length + d = w → d < n → iterN (fun (s3:(List Int))=>
           if (decide ((len s3) < (w:Int))) then
            (app? s3 ([x]:List Int)).bind fun x24=>
            some (.inl (x24))
           else
            some (.inr (s3))
          ) n l = some (l ++ List.replicate d x)
  | 0, l, h, hn => by
    obtain ⟨n,rfl⟩ : ∃ j,n = j + 1:=⟨n - 1,by omega⟩
    rw [iterN]
    rw [ZnA (by rw [Za]; simp; omega)]
    simp
  | d + 1, l, h, hn => by
    obtain ⟨n,rfl⟩ : ∃ j,n = j + 1:=⟨n - 1,by omega⟩
    rw [iterN]
    rw [ZnC (by rw [Za]; simp; omega),Zix (by simp; omega)]
    simp only [Zn4]
    rw [Zgv hw d (l ++ [x]) (by simp; omega) (by omega)]
    rw [Zoh,Zox,← Zp3]
section
variable {n:Nat} [FU n] {s:BS}
def ifin (n:Nat) (p1:D.Term) (ls:List (List Int)) (m:D.builder):Option ((List Int) × D.builder):=
   (get? ls 0).bind fun x8=>
   if (p1.Op == 1) then
    (Ym n x8).bind fun x9=>
    some (x9,(D.builder.mk (D.Circuit.mk m.c.Inputs m.c.Gates) m.line m.full))
   else
    if (p1.Op == 2) then
     (ZW n p1.W 0).bind fun x10=>
     (Z7 n (D.builder.mk (D.Circuit.mk m.c.Inputs m.c.Gates) m.line m.full) 4 x10 x8).bind fun x11=>
     some (x11.1,x11.2)
    else
     if (p1.Op == 17) then
      (mk? p1.W (0:Int)).bind fun x12 =>
      (iterN (fun (s2 : Int × (List Int) × Int × Bool × (List D.Gate) × (List (D.Gate × Int))) =>
       if (decide (s2.1 < (len x12))) then
        (get? x8 0).bind fun x13=>
        (get? ls 1).bind fun x14=>
        (get? x14 s2.1).bind fun x15=>
        (get? ls 2).bind fun x16=>
        (get? x16 s2.1).bind fun x17=>
        (Zb (D.builder.mk (D.Circuit.mk s2.2.2.1 s2.2.2.2.2.1) s2.2.2.2.2.2 s2.2.2.2.1) x13 x15 x17).bind fun x18=>
        (set? s2.2.1 s2.1 x18.1).bind fun x19=>
        some (.inl ((w64 (s2.1 + 1)),x19,x18.2.c.Inputs,x18.2.full,x18.2.c.Gates,x18.2.line))
       else
        some (.inr (s2.2.1,s2.2.2.1,s2.2.2.2.1,s2.2.2.2.2.1,s2.2.2.2.2.2))
      ) n (0,x12,m.c.Inputs,m.full,m.c.Gates,m.line)).bind fun (rl2:(List Int) × Int × Bool × (List D.Gate) × (List (D.Gate × Int)))=>
      some (rl2.1,(D.builder.mk (D.Circuit.mk rl2.2.1 rl2.2.2.2.1) rl2.2.2.2.2 rl2.2.2.1))
     else
      if (p1.Op == 18) then
       (get? ls 1).bind fun x20=>
       (app? x20 x8).bind fun x21=>
       some (x21,(D.builder.mk (D.Circuit.mk m.c.Inputs m.c.Gates) m.line m.full))
      else
       if (p1.Op == 19) then
        (cut? x8 p1.N (w64 (p1.N + p1.W))).bind fun x22=>
        some (x22,(D.builder.mk (D.Circuit.mk m.c.Inputs m.c.Gates) m.line m.full))
       else
        if ((p1.Op == 20) || (p1.Op == 21)) then
         if (p1.Op == 21) then
          (get? x8 (w64 ((len x8) - 1))).bind fun x23 =>
          (iterN (fun (s3 : (List Int)) =>
           if (decide ((len s3) < p1.W)) then
            (app? s3 ([x23]:List Int)).bind fun x24=>
            some (.inl (x24))
           else
            some (.inr (s3))
          ) n (x8)).bind fun (rl3:(List Int))=>
          some (rl3,(D.builder.mk (D.Circuit.mk m.c.Inputs m.c.Gates) m.line m.full))
         else
          (iterN (fun (s4 : (List Int)) =>
           if (decide ((len s4) < p1.W)) then
            (app? s4 ([(-1)]:List Int)).bind fun x25=>
            some (.inl (x25))
           else
            some (.inr (s4))
          ) n (x8)).bind fun (rl4:(List Int))=>
          some (rl4,(D.builder.mk (D.Circuit.mk m.c.Inputs m.c.Gates) m.line m.full))
        else
         (get? ls 1).bind fun x26=>
         (Z7 n (D.builder.mk (D.Circuit.mk m.c.Inputs m.c.Gates) m.line m.full) p1.Op x8 x26).bind fun x27=>
         some (x27.1,x27.2)
theorem Zk0 {t:D.Term} {ls:List (List Int)} {m:D.builder} (hb:nodeB t = true) (hwd:wide1 t = false) (hs:CircP s.1) (hm:RelB m s) (h0:t.Op ≠ 0) (h22:t.Op ≠ 22) (hk:KK s t.Kids ls):∃ m',ifin n t ls m = some ((fin t.Op t.W.toNat t.N.toNat ls s).1,m') ∧ RelB m' (fin t.Op t.W.toNat t.N.toNat ls s).2:=by
  obtain ⟨op,w,mm,nm,ks⟩:=t
  obtain ⟨hw,hsh⟩:=Y3 hb
  simp only at h0 h22 hk ⊢
  have eW:((w.toNat:Nat):Int) = w:=by omega
  unfold ifin
  simp only
  rcases hsh with ⟨rfl,-⟩ | ⟨rfl,-⟩ | ⟨ho,-,-,a,rfl,ha,haw⟩ | ⟨h3,h16,-,-,a,b,rfl,ha,hb',hab,h13,h14⟩ | ⟨rfl,-,-,a,b,c,rfl,ha,hb',hc,ha1,hbw,hcw⟩ | ⟨rfl,-,-,a,b,rfl,ha,hb',habw⟩ | ⟨rfl,-,hm0,hm1,a,rfl,ha,haw⟩ | ⟨ho,-,-,a,rfl,ha,haw⟩
  · exact absurd rfl h0
  · exact absurd rfl h22
  · obtain ⟨la, r1, k1, hn1, rfl⟩ := KK1 hk
    obtain rfl:=KK0 hn1
    have hl:la.length = w.toNat:=by rw [k1.1,haw]
    rw [g0]
    simp only [Zn4]
    unfold fin
    simp only [Zob]
    rcases ho with rfl | rfl
    · rw [ZnC (by rfl), ZnC (by trivial), Cc.impl_opp hs.lines1 (by omega) k1.2]
      exact ⟨m,rfl,hm⟩
    · have hne:¬ w.toNat = 16:=fun e=>by
        have:a.W = 16:=by omega
        simp [wide1,this] at hwd
      rw [ZnA (by decide),ZnC (by rfl),ZnA (by decide),ZnC (by trivial),← eW,ZeA (by omega),ZhG]
      simp only [Zn4,Zoo]
      rw [ZnA hne]
      obtain ⟨m',e,r⟩:=Cc.impl_op (fuel:=n) hs (op:=4) (a:=List.replicate w.toNat (-1)) (b:=la) (by omega) (by simp [hl]) (by simp; omega) (by simp; omega) (ZcR hs) k1.2 hm
      have e':Z7 n (D.builder.mk (D.Circuit.mk m.c.Inputs m.c.Gates) m.line m.full) 4 (List.replicate w.toNat (-1)) la = _:=e
      rw [e']
      exact ⟨m',rfl,r⟩
  · obtain ⟨la, r1, k1, hn1, rfl⟩ := KK1 hk
    obtain ⟨lb,r2,k2,hn2,rfl⟩:=KK1 hn1
    obtain rfl:=KK0 hn2
    have hA:=Yf ha
    have hla:=k1.1
    have hne:¬ la.length = 16:=fun e=>by
      have:a.W = 16:=by omega
      simp [wide1,this] at hwd
      omega
    unfold fin
    simp only [Zob,Zot,g0,g1,Zn4]
    have bb:∀ k:Int,k ≤ 2 ∨ 17 ≤ k → (op == k) = false:=fun k hk=>by simp; omega
    have cc:∀ k:Int,k ≤ 2 ∨ 17 ≤ k → ¬ op = k:=fun k hk=>by omega
    simp only [bb 1 (by omega),bb 2 (by omega),bb 17 (by omega),bb 18 (by omega),bb 19 (by omega),bb 20 (by omega),bb 21 (by omega),cc 1 (by omega),cc 2 (by omega),cc 17 (by omega),cc 18 (by omega),cc 19 (by omega),cc 20 (by omega),cc 21 (by omega),Zn6,ZnI,ZpB]
    rw [ZnA hne]
    obtain ⟨m',e,r⟩:=Cc.impl_op (fuel:=n) hs (op:=op) (a:=la) (b:=lb) ⟨h3,h16⟩ (by rw [k1.1,k2.1,hab]) (by omega) (by omega) k1.2 k2.2 hm
    have e':Z7 n (D.builder.mk (D.Circuit.mk m.c.Inputs m.c.Gates) m.line m.full) op la lb = _:=e
    rw [e']
    exact ⟨m',rfl,r⟩
  · obtain ⟨la, r1, k1, hn1, rfl⟩ := KK1 hk
    obtain ⟨lb,r2,k2,hn2,rfl⟩:=KK1 hn1
    obtain ⟨lc,r3,k3,hn3,rfl⟩:=KK1 hn2
    obtain rfl:=KK0 hn3
    unfold fin
    simp only [Zob,Zot,g0,g1,g2,Zn4]
    rw [ZnA (by decide),ZnA (by decide),ZnC (by rfl)]
    rw [ZnA (by omega),ZnA (by omega),ZnC (by trivial)]
    have hla:=k1.1
    have hlb:=k2.1
    have hlc:=k3.1
    rw [ha1] at hla
    rw [hbw] at hlb
    rw [hcw] at hlc
    have hl1:la.length = 1:=by simpa using hla
    have hg0:get? la 0 = some (la.getD 0 0):=by
      obtain ⟨z,hz⟩:=List.length_eq_one_iff.1 hl1
      rw [hz]; rfl
    have hc0:litN (lines s.1) (la.getD 0 0) = true:=k1.2 _ (Cc.getD_mem (by omega))
    have hz:(lb.zip lc).length = w.toNat:=by rw [Zo7,hlb,hlc,ZpH]
    rw [show mk? w (0:Int) = some (List.replicate w.toNat 0) from by unfold mk?; rw [ZnC ⟨by omega,by unfold room; omega⟩]]
    simp only [Zn4]
    obtain ⟨m',e,r⟩:=Cc.impl_seq (fuel:=n) (B:=(fun (s2:Int × (List Int) × Int × Bool × (List D.Gate) × (List (D.Gate × Int)))=>
       if (decide (s2.1 < (len (List.replicate w.toNat (0:Int))))) then
        (get? la 0).bind fun x13=>
        (get? lb s2.1).bind fun x15=>
        (get? lc s2.1).bind fun x17=>
        (Zb (D.builder.mk (D.Circuit.mk s2.2.2.1 s2.2.2.2.2.1) s2.2.2.2.2.2 s2.2.2.2.1) x13 x15 x17).bind fun x18=>
        (set? s2.2.1 s2.1 x18.1).bind fun x19=>
        some (.inl ((w64 (s2.1 + 1)),x19,x18.2.c.Inputs,x18.2.full,x18.2.c.Gates,x18.2.line))
       else
        some (.inr (s2.2.1,s2.2.2.1,s2.2.2.2.1,s2.2.2.2.2.1,s2.2.2.2.2.2)))) hs (by omega) (ZkK hs hc0 k2.2 k3.2) (L0:=List.replicate w.toNat 0) (by rw [hz,Zos]) (fun j L m1 s' x hx hc' hg hr hL _=>by
          have hj:j < w.toNat:=by have:=(Zn9.1 hx).1; omega
          have hz2:=Cc.zip_mem hx
          obtain ⟨m4,e4,r4⟩:=Cc.impl_if hc' (Zcy hc0 hg) (Zcy (k2.2 _ (ZnN hz2.1)) hg) (Zcy (k3.2 _ (ZnN hz2.2)) hg) m1 hr
          have e4':Zb (D.builder.mk (D.Circuit.mk m1.c.Inputs m1.c.Gates) m1.line m1.full) (la.getD 0 0) x.1 x.2 = _:=e4
          refine ⟨m4,?_,r4⟩
          simp only
          rw [ZnC (by rw [Za]; simp; omega),hg0]
          simp only [Zn4]
          rw [get?_nat,get?_nat,hz2.1,hz2.2]
          simp only [Zn4,e4']
          rw [set?_nat (by omega)]
          simp only [Zn4]
          rw [Ze (by omega) (by omega)]
          rfl) (fun L m1=>by
          simp only
          rw [ZnA (by rw [Za]; simp; omega)]) hm
    rw [e]
    exact ⟨m',rfl,r⟩
  · obtain ⟨la, r1, k1, hn1, rfl⟩ := KK1 hk
    obtain ⟨lb,r2,k2,hn2,rfl⟩:=KK1 hn1
    obtain rfl:=KK0 hn2
    have hA:=Yf ha
    have hB:=Yf hb'
    have hla:=k1.1
    have hlb:=k2.1
    unfold fin
    simp only [Zob,Zot,g0,g1,Zn4]
    rw [ZnA (by decide),ZnA (by decide),ZnA (by decide),ZnC (by rfl)]
    rw [ZnA (by omega),ZnA (by omega),ZnA (by omega),ZnC (by trivial)]
    rw [Zix (by omega)]
    exact ⟨m,rfl,hm⟩
  · obtain ⟨la, r1, k1, hn1, rfl⟩ := KK1 hk
    obtain rfl:=KK0 hn1
    have hA:=Yf ha
    have hla:=k1.1
    unfold fin
    simp only [Zob,g0,Zn4]
    rw [ZnA (by decide),ZnA (by decide),ZnA (by decide),ZnA (by decide),ZnC (by rfl)]
    rw [ZnA (by omega),ZnA (by omega),ZnA (by omega),ZnA (by omega),ZnC (by trivial)]
    have:=Zms (l:=la) (m:=mm.toNat) (w:=w.toNat) (by omega) (by omega)
    rw [show ((mm.toNat:Nat):Int) = mm by omega,eW] at this
    rw [this]
    exact ⟨m,rfl,hm⟩
  · obtain ⟨la, r1, k1, hn1, rfl⟩ := KK1 hk
    obtain rfl:=KK0 hn1
    have hA:=Yf ha
    have hla:=k1.1
    have hpad:∀ x:Int,_:=fun x=>Zgv (n:=n) (x:=x) (w:=w.toNat) (by omega) (w.toNat - la.length) la (by omega) (by have:=FU.le (n:=n); omega)
    rw [eW] at hpad
    unfold fin
    simp only [Zob,g0,Zn4]
    rcases ho with rfl | rfl
    · rw [ZnA (by decide), ZnA (by decide), ZnA (by decide), ZnA (by decide), ZnA (by decide), ZnC (by rfl), ZnA (by decide)]
      rw [ZnA (by omega),ZnA (by omega),ZnA (by omega),ZnA (by omega),ZnA (by omega),ZnC (by trivial)]
      rw [hpad]
      exact ⟨m,rfl,hm⟩
    · rw [ZnA (by decide), ZnA (by decide), ZnA (by decide), ZnA (by decide), ZnA (by decide), ZnC (by rfl), ZnC (by rfl)]
      rw [ZnA (by omega),ZnA (by omega),ZnA (by omega),ZnA (by omega),ZnA (by omega),ZnA (by omega),ZnC (by trivial)]
      rw [ZmK (by omega) (by omega)]
      simp only [Zn4]
      rw [hpad]
      exact ⟨m,rfl,hm⟩
end
def MapOk (vs:List D.Value) (mp:List (Str × List Int)):Prop:=∀ v ∈ vs,v.Name.bytes.length ≤ 1000 ∧ (mp.lookup v.Name).getD [] = varL vs v.Name v.W.toNat
section
variable {vs:List D.Value} (hp:vs.Pairwise fun x y=>x.Name ≠ y.Name) {mp:List (Str × List Int)} (hmp:MapOk vs mp)
include hp hmp
theorem Zk1:∀ (n:Nat) (t:D.Term) (s:BS) (m:D.builder),1048600 + cnt t ≤ n → nodeB t = true → wideB t = false → TV vs t → CircP s.1 → VF vs s.1 → RelB m s → ∃ m',ZF n m t (some mp) = some ((nP vs t s).1,m') ∧ RelB m' (nP vs t s).2:=by
  intro n
  induction n with
  | zero=>intro t s m h; omega
  | succ n ih =>
    intro t s m hn hb hwd ht hs hv hm
    haveI:FU n:=⟨by omega⟩
    have hw:=Yf hb
    have hcn:=Xk t
    have eW:((t.W.toNat:Nat):Int) = t.W:=by omega
    rw [ZbT,ZpN] at hwd
    rw [ZF,Zio]
    by_cases h0:t.Op = 0
    · rw [ZnC (by simpa using h0), ZnC h0, ← eW, ZeA (by omega)]
      simp only [Zn4,Zoo]
      exact ⟨m,rfl,hm⟩
    rw [ZnA (by simpa using h0),ZnA h0]
    by_cases h22:t.Op = 22
    · rw [ZnC (by simpa using h22), ZnC h22]
      obtain ⟨v,hv1,hv2,hv3⟩:=ht (t.Name,t.W) (by rw [XR,ZnC h22]; simp)
      simp only at hv2 hv3
      obtain ⟨q1,q2⟩:=hmp v hv1
      rw [hv2] at q1 q2
      rw [hv3] at q2
      have e:mgeto? fitS ([]:List Int) (some mp) t.Name = some (varL vs t.Name t.W.toNat):=by
        unfold mgeto? mget?
        rw [ZnC (by unfold fitS; simp; omega)]
        exact congrArg some q2
      rw [e]
      simp only [Zn4]
      rw [show Zc (varL vs t.Name t.W.toNat) = some (varL vs t.Name t.W.toNat) from by unfold Zc; rw [Zix (by rw [Ze1]; simp; omega)]; rfl]
      exact ⟨m,rfl,hm⟩
    rw [ZnA (by simpa using h22),ZnA h22]
    have hkg:∀ x ∈ t.Kids,∀ s:BS,CircP s.1 → VF vs s.1 → GoodL s x.W.toNat (nP vs x s):=fun x hx s' hs' hv'=>Zci hp _ x s' (ZnK _) (nodeK hb x hx) (Zc2 ht h22 hx) hs' hv'
    obtain ⟨q1,q2,q3⟩:=Zbf t.Kids s hkg hs hv
    have hkl:t.Kids.length ≤ 3:=by
      obtain ⟨op,w,m,nm,ks⟩:=t
      obtain ⟨-,hsh⟩:=Y3 hb
      rcases hsh with ⟨-,rfl,-⟩ | ⟨-,rfl,-⟩ | ⟨-,-,-,a,rfl,-⟩ | ⟨-,-,-,-,a,b,rfl,-⟩ | ⟨-,-,-,a,b,c,rfl,-⟩ | ⟨-,-,-,a,b,rfl,-⟩ | ⟨-,-,-,-,a,rfl,-⟩ | ⟨-,-,-,a,rfl,-⟩ <;> simp
    rw [show mk? (len t.Kids) (([]:List Int):List Int) = some (List.replicate t.Kids.length []) from by rw [Za]; unfold mk?; rw [ZnC ⟨by omega,by unfold room; omega⟩]; simp]
    simp only [Zn4]
    obtain ⟨r,g1,m',rfl,g2⟩:=Yk (l:=t.Kids) (n:=n) (σ:=List (List Int) × D.builder) (ρ:=Int × Bool × (List D.Gate) × (List (D.Gate × Int)) × (List (List Int))) (B:=fun (s1:Int × Int × Bool × (List D.Gate) × (List (D.Gate × Int)) × (List (List Int)))=>
      if (decide (s1.1 < (len t.Kids))) then
       (get? t.Kids s1.1).bind fun x5=>
       (ZF n (D.builder.mk (D.Circuit.mk s1.2.1 s1.2.2.2.1) s1.2.2.2.2.1 s1.2.2.1) x5 (some mp)).bind fun x6=>
       (set? s1.2.2.2.2.2 s1.1 x6.1).bind fun x7=>
       some (.inl ((w64 (s1.1 + 1)),x6.2.c.Inputs,x6.2.full,x6.2.c.Gates,x6.2.line,x7))
      else
       some (.inr (s1.2.1,s1.2.2.1,s1.2.2.2.1,s1.2.2.2.2.1,s1.2.2.2.2.2))) (fun k a=>((k:Int),a.2.c.Inputs,a.2.full,a.2.c.Gates,a.2.line,a.1))
      (fun ys a=>∃ (pre:List (List Int)) (s':BS),a.1 = pre ++ List.replicate ys.length [] ∧ pre ++ (nPs vs ys s').1 = (nPs vs t.Kids s).1 ∧ (nPs vs ys s').2 = (nPs vs t.Kids s).2 ∧ RelB a.2 s' ∧ CircP s'.1 ∧ VF vs s'.1 ∧ pre.length + ys.length = t.Kids.length ∧ ∀ y ∈ ys,y ∈ t.Kids)
      (fun r=>∃ m':D.builder,r = (m'.c.Inputs,m'.full,m'.c.Gates,m'.line,(nPs vs t.Kids s).1) ∧ RelB m' (nPs vs t.Kids s).2)
      (fun k x xs a hk hx hlen' ⟨pre,s',h0,h1,h2,hr,h3,h4,h5,h6⟩=>by
        have hd:decide ((k:Int) < len t.Kids) = true:=by rw [Za]; simp; omega
        have hxk:=h6 x (by simp)
        have hc:=Xn hxk
        obtain ⟨m1,e,r1⟩:=ih x s' a.2 (by omega) (nodeK hb x hxk) (ZeN hwd.2 hxk) (Zc2 ht h22 hxk) h3 h4 hr
        have e':ZF n (D.builder.mk (D.Circuit.mk a.2.c.Inputs a.2.c.Gates) a.2.line a.2.full) x (some mp) = _:=e
        have g:=hkg x hxk s' h3 h4
        simp only [ZnL] at h5 hlen'
        have hpk:pre.length = k:=by omega
        have hset:set? a.1 (k:Int) (nP vs x s').1 = some ((pre ++ [(nP vs x s').1]) ++ List.replicate xs.length []):=by
          rw [h0,set?_nat (by simp; omega),ZoL _ _ (by omega),hpk,ZoR,ZnL,Zp3,Zpp,Zoh,Zox]
        simp only [hd,ZnV,get?_nat,hx,Zn4,e',hset]
        rw [Ze (by omega) (by omega)]
        rw [ZcD] at h1 h2
        exact .inl ⟨((pre ++ [(nP vs x s').1]) ++ List.replicate xs.length [],m1),rfl,pre ++ [(nP vs x s').1],(nP vs x s').2,rfl,by rw [← h1]; simp,h2,r1,g.circ,h4.mono g.grow,by simp; omega,fun y hy=>h6 y (by simp [hy])⟩)
      (fun a ⟨pre,s',h0,h1,h2,hr,h3,h4,h5,h6⟩=>by
        have hd:decide ((t.Kids.length:Int) < len t.Kids) = false:=by rw [Za]; simp
        simp only [hd,Zn6,ZnI]
        rw [ZfZ] at h1 h2
        simp only [Zoz,Zom,List.replicate_zero] at h1 h0
        exact ⟨_,rfl,a.2,by rw [h0,h1],by rw [← h2]; exact hr⟩) (a:=(List.replicate t.Kids.length [],m)) ⟨[],s,by simp,by simp,rfl,hm,hs,hv,by simp,fun _ h=>h⟩ (by omega)
    rw [show ((0:Nat):Int) = 0 from rfl] at g1
    rw [show ((List.replicate t.Kids.length ([]:List Int),m).2) = m from rfl,show ((List.replicate t.Kids.length ([]:List Int),m).1) = List.replicate t.Kids.length [] from rfl] at g1
    rw [g1]
    simp only [Zn4]
    exact Zk0 hb hwd.1 q1 g2 h0 h22 q3
end
open Cc (BS LS CircP Grow GoodL Good litN lines negs seqP ifP opP net RelB FOk FU andP orP xorP addP accP mulK divK shP shK)
theorem ZaT {s:BS} {a b:Int} (h:s.2 = true):(andP s a b).2.2 = true:=by
 unfold andP
 split
 ·exact h
 split
 ·exact h
 split
 ·exact h
 split
 ·exact h
 split
 ·rfl
 ·exact h
theorem Zg6 {s:BS} {a b:Int} (h:s.2 = true):(orP s a b).2.2 = true:=ZaT h
theorem Zf8 {s:BS} {a b:Int} (h:s.2 = true):(xorP s a b).2.2 = true:=Zg6 (ZaT (ZaT h))
theorem Zi0 {s:BS} {c a b:Int} (h:s.2 = true):(ifP s c a b).2.2 = true:=Zg6 (ZaT (ZaT h))
theorem Zkm {α:Type} {f:BS → α → Int × BS} (hf:∀ s x,s.2 = true → (f s x).2.2 = true):∀ {l:List α} {t:LS},t.2.2 = true → (l.foldl (fun t x=>(t.1 ++ [(f t.2 x).1],(f t.2 x).2)) t).2.2 = true
 | [],t,h=>h
 | x :: l,t,h=>Zkm hf (l:=l) (t:=(t.1 ++ [(f t.2 x).1],(f t.2 x).2)) (hf _ _ h)
theorem ZaJ {α:Type} {f:BS → α → Int × BS} (hf:∀ s x,s.2 = true → (f s x).2.2 = true) {l:List α} {s:BS} (h:s.2 = true):(seqP f s l).2.2 = true:=Zkm hf (t:=([],s)) h
theorem ZiM {α:Type} {f:BS → Int → α → Int × BS} (hf:∀ s c x,s.2 = true → (f s c x).2.2 = true):∀ {l:List α} {s:BS} {c:Int},s.2 = true → (accP f s c l).2.2 = true:=by
 have:∀ {l:List α} {t:Int × BS},t.2.2 = true → (l.foldl (fun t x=>f t.2 t.1 x) t).2.2 = true:=fun {l}=>by
  induction l with
  | nil=>intro t h; exact h
  | cons x l ih=>intro t h; exact ih (hf _ _ _ h)
 exact fun {l s c} h=>this (t:=(c,s)) h
theorem Zdl {s:BS} {a b:List Int} {c:Int} (h:s.2 = true):(addP s a b c).2.2.2 = true:=by
 have:∀ {l:List (Int × Int)} {t:Cc.AS},t.2.2.2 = true → (l.foldl Cc.addStep t).2.2.2 = true:=fun {l}=>by
  induction l with
  | nil=>intro t h; exact h
  | cons x l ih=>intro t h; exact ih (Zg6 (ZaT (ZaT (Zf8 (Zf8 h)))))
 exact this (t:=([],c,s)) h
theorem Zkq {s:BS} {a b:List Int} (h:s.2 = true):∀ k,(mulK s a b k).2.2 = true
 | 0=>h
 | k + 1=>by rw [Cc.mulK_succ]; exact Zdl (ZaJ (fun s x h=>ZaT h) (Zkq h k))
theorem Zhc {s:BS} {a b:List Int} (h:s.2 = true):∀ k,(divK s a b k).2.2.2 = true
 | 0=>h
 | k + 1=>by rw [Cc.divK_succ]; exact ZaJ (fun s x h=>Zi0 h) (Zdl (Zhc h k))
theorem Zkz {s:BS} {a b:List Int} {L:Bool} {fill:Int} (h:s.2 = true):∀ k,(shK s a b L fill k).2.2 = true
 | 0=>h
 | k + 1=>by rw [Cc.shK_succ]; exact ZaJ (fun s x h=>Zi0 h) (Zkz h k)
theorem Zkh {s:BS} {a b:List Int} {L:Bool} {fill:Int} (h:s.2 = true):(shP s a b L fill).2.2 = true:=ZaJ (fun s x h=>Zi0 h) (ZiM (fun s c x h=>Zg6 h) (Zkz h _))
theorem YT {c:Prop} [Decidable c] {x y:LS} (h1:x.2.2 = true) (h2:y.2.2 = true):(if c then x else y).2.2 = true:=by split <;> assumption
theorem Znh {s:BS} {op:Int} {a b:List Int} (h:s.2 = true):(opP s op a b).2.2 = true:=by
 unfold opP
 exact YT (Zdl h) (YT (Zdl h) (YT (Zkq h _) (YT (Zhc h _) (YT (Zhc h _) (YT (ZaJ (fun s x h=>ZaT h) h) (YT (ZaJ (fun s x h=>Zg6 h) h) (YT (ZaJ (fun s x h=>Zf8 h) h) (YT (Zkh h) (YT (Zkh h) (YT (Zkh h) (YT (ZiM (fun s c x h=>ZaT (Zf8 h)) h) (YT (Zdl h) (Zdl h)))))))))))))
theorem Zk5 {op:Int} {w m:Nat} {ls:List (List Int)} {s:BS} (h:s.2 = true):(fin op w m ls s).2.2 = true:=by
 unfold fin
 repeat' split
 all_goals first | exact h | rfl | exact Znh h | exact ZaJ (fun s x h=>Zi0 h) h
mutual
theorem Znu (vs:List D.Value):∀ (t:D.Term) (s:BS),s.2 = true → (nP vs t s).2.2 = true
 | ⟨op,w,m,nm,ks⟩,s,h=>by
  rw [nP]
  split
  ·exact h
  split
  ·exact h
  ·exact Zk5 (Zhx vs ks s h)
theorem Zhx (vs:List D.Value):∀ (l:List D.Term) (s:BS),s.2 = true → (nPs vs l s).2.2 = true
 | [],s,h=>by rw [nPs]; exact h
 | t :: l,s,h=>by rw [nPs]; exact Zhx vs l _ (Znu vs t s h)
end
theorem ZjC {vs:List D.Value} (hp:vs.Pairwise fun x y=>x.Name ≠ y.Name):∀ (n:Nat) (t:D.Term) (s:BS),cnt t ≤ n → nodeB t = true → wideB t = true → TV vs t → CircP s.1 → VF vs s.1 → (nP vs t s).2.2 = true:=by
 intro n
 induction n with
 | zero=>intro t s h; have:=Xk t; omega
 | succ n ih=>
  intro t s hc hb hwd ht hs hv
  have hcn:=Xk t
  rw [Zio]
  by_cases h0:t.Op = 0
  ·exfalso
   obtain ⟨op,w,m,nm,ks⟩:=t
   obtain ⟨-,hsh⟩:=Y3 hb
   simp only at h0
   subst h0
   rcases hsh with ⟨-,rfl,-⟩ | ⟨h,-⟩ | ⟨h,-⟩ | ⟨h,-⟩ | ⟨h,-⟩ | ⟨h,-⟩ | ⟨h,-⟩ | ⟨h,-⟩
   ·rw [ZbT] at hwd; simp [wide1,Zbu] at hwd
   all_goals omega
  rw [ZnA h0]
  by_cases h22:t.Op = 22
  ·exfalso
   obtain ⟨op,w,m,nm,ks⟩:=t
   obtain ⟨-,hsh⟩:=Y3 hb
   simp only at h22
   subst h22
   rcases hsh with ⟨h,-⟩ | ⟨-,rfl,-⟩ | ⟨h,-⟩ | ⟨-,h,-⟩ | ⟨h,-⟩ | ⟨h,-⟩ | ⟨h,-⟩ | ⟨h,-⟩
   ·omega
   ·rw [ZbT] at hwd; simp [wide1,Zbu] at hwd
   all_goals omega
  rw [ZnA h22]
  have hkg:∀ x ∈ t.Kids,∀ s:BS,CircP s.1 → VF vs s.1 → GoodL s x.W.toNat (nP vs x s):=fun x hx s' hs' hv'=>Zci hp _ x s' (ZnK _) (nodeK hb x hx) (Zc2 ht h22 hx) hs' hv'
  obtain ⟨q1,q2,q3⟩:=Zbf t.Kids s hkg hs hv
  rw [ZbT,Zo6] at hwd
  rcases hwd with hwd | hwd
  ·
   obtain ⟨op,w,m,nm,ks⟩:=t
   obtain ⟨hw,hsh⟩:=Y3 hb
   unfold wide1 at hwd
   simp only [ZnB,Zo6,ZoN,ZnO] at hwd
   obtain ⟨ho,hk⟩:=hwd
   simp only at h0 h22 q1 q2 q3 ⊢
   rcases hsh with ⟨rfl,-⟩ | ⟨rfl,-⟩ | ⟨ho',-,-,a,rfl,ha,haw⟩ | ⟨h3,h16,-,-,a,b,rfl,ha,hb',hab,h13,h14⟩ | ⟨rfl,-⟩ | ⟨rfl,-⟩ | ⟨rfl,-⟩ | ⟨ho',-⟩
   ·omega
   ·omega
   ·have h2 : op = 2 := by omega
    subst h2
    simp only [ZoN] at hk
    unfold fin
    rw [ZnA (by omega),ZnC rfl,ZnC (by omega)]
   ·simp only [ZoN] at hk
    obtain ⟨la,r1,k1,hn1,e⟩:=KK1 q3
    have hl:((nPs vs [a,b] s).1.getD 0 []).length = 16:=by rw [e,Zob,k1.1,hk]; rfl
    unfold fin
    rw [ZnA (by omega),ZnA (by omega),ZnA (by omega),ZnA (by omega),ZnA (by omega),ZnA (by omega),ZnA (by omega),ZnC hl]
   all_goals omega
  ·refine Zk5 ?_
   have:∀ (l:List D.Term) (s:BS),(∀ x ∈ l,x ∈ t.Kids) → wideBs l = true → CircP s.1 → VF vs s.1 → (nPs vs l s).2.2 = true:=fun l=>by
    induction l with
    | nil=>intro s _ h; rw [Zbu] at h; cases h
    | cons x l ihl=>
     intro s hm h hs' hv'
     rw [ZbO,Zo6] at h
     rw [ZcD]
     have hx:=hm x (by simp)
     have g:=hkg x hx s hs' hv'
     rcases h with h | h
     ·exact Zhx vs l _ (ih x s (by have:=Xn hx; omega) (nodeK hb x hx) h (Zc2 ht h22 hx) hs' hv')
     ·exact ihl _ (fun y hy=>hm y (by simp [hy])) h g.circ (hv'.mono g.grow)
   exact this t.Kids s (fun _ h=>h) hwd hs hv
theorem Zgk {t:D.Term} (h:nodeB t = true) (ho:t.Op = 22):t.Name.bytes.length ≤ 8 ∧ t.Kids = []:=by
 rw [Zam,ZnB] at h
 have h:=h.1
 unfold locB shB at h
 simp only [ho,ZnB] at h
 have h:=h.2
 simp [nameB] at h
 exact ⟨by omega,by simpa using h.1⟩
theorem collect:∀ (n:Nat) (t:D.Term) (g:List (Str × Int)),nodeB t = true → msz t ≤ 1048576 → g.length + (vrs t).length ≤ 1000 → 1048580 + cnt t ≤ n → ZQ n t (some g) = some (some ((vrs t).reverse ++ g)):=by
 intro n
 induction n with
 | zero=>intro t g _ _ _ _; omega
 | succ n ih=>
  intro t g hb hs hg hn
  have hz:=ZbK t
  have hcn:=Xk t
  rw [ZQ]
  by_cases o1:t.Op = 22
  ·obtain ⟨h1, h2⟩ := Zgk hb o1
   have hv:vrs t = [(t.Name,t.W)]:=by rw [XR,ZnC o1]
   have c1:(t.Op == 22) = true:=by simpa using o1
   have hw:=Yf hb
   rw [hv] at hg
   simp only [c1,ZnV,Zn4,put1 (g:=g) (s:=t.Name) (by omega) hw (by simp at hg; omega)]
   obtain ⟨m,rfl⟩ : ∃ m,n = m + 1:=⟨n - 1,by omega⟩
   rw [h2,hv]
   rfl
  ·have c1 : (t.Op == 22) = false := by simpa using o1
   have hv:vrs t = vrss t.Kids:=by rw [XR,ZnA o1]
   simp only [c1,Zn6,ZnI]
   rw [Zam,ZnB,Yl,ZnP] at hb
   rw [hv] at hg ⊢
   obtain ⟨r,g1,g2⟩:=Yk (l:=t.Kids) (n:=n) (σ:=Option (List (Str × Int))) (ρ:=Option (List (Str × Int))) (B:=fun (s2:Int × (Option (List (Str × Int))))=>
     if (decide (s2.1 < (len t.Kids))) then
      (get? t.Kids s2.1).bind fun x5=>
      (ZQ n x5 s2.2).bind fun x6=>
      some (.inl ((w64 (s2.1 + 1)),x6))
     else
      some (.inr (s2.2))) (fun k a=>((k:Int),a)) (fun ys a=>∃ ga,a = some ga ∧ (vrss ys).reverse ++ ga = (vrss t.Kids).reverse ++ g ∧ ga.length + (vrss ys).length ≤ 1000 ∧ ∀ x ∈ ys,x ∈ t.Kids)
     (fun r=>r = some ((vrss t.Kids).reverse ++ g))
     (fun k x xs a hk' hx hlen ⟨ga, i0, i1, i2, i3⟩ => by
      have hxk:=i3 x (by simp)
      have:=Zbq hxk
      have:=Xn hxk
      have hd:decide ((k:Int) < len t.Kids) = true:=by rw [Za]; simp; omega
      rw [Xj,ZnD] at i2
      rw [Xj,ZpT] at i1
      subst i0
      simp only [hd,ZnV,get?_nat,hx,Zn4]
      rw [ih x ga (hb.2 x hxk) (by omega) (by omega) (by omega)]
      refine .inl ⟨some ((vrs x).reverse ++ ga),by simp only [Zn4]; rw [Ze (by omega) (by omega)]; rfl,_,rfl,by rw [← i1,Zoh],by simp; omega,fun y hy=>i3 y (by simp [hy])⟩)
     (fun a ⟨ga, i0, i1, i2, i3⟩ => by
      have hd:decide ((t.Kids.length:Int) < len t.Kids) = false:=by rw [Za]; simp
      simp only [hd,Zn6,ZnI]
      rw [ZaD] at i1
      exact ⟨_,rfl,by rw [i0,← i1]; rfl⟩) (a:=some g) ⟨g,rfl,rfl,hg,fun x hx=>hx⟩ (by omega)
   rw [show ((0:Nat):Int) = 0 from rfl] at g1
   rw [g1,g2]; rfl
theorem Zf4:∀ {l g g':List (Str × Int)},runV g l = some g' → (∀ p:Str × Int,g.lookup p.1 = some p.2 → g'.lookup p.1 = some p.2) ∧ ∀ p ∈ l,g'.lookup p.1 = some p.2
 | [],g,g',h=>by simp only [runV,Option.some.injEq] at h; subst h; exact ⟨fun p hp=>hp,fun p hp=>by cases hp⟩
 | v :: l,g,g',h=>by
  simp only [runV,Zod] at h
  obtain ⟨g1,h1,h2⟩:=h
  obtain ⟨i1,i2⟩:=Zf4 h2
  have hv:g1.lookup v.1 = some v.2:=by
   unfold stp at h1
   split at h1
   ·rename_i w hw
    split at h1
    ·rename_i e; cases h1; rw [hw,e]
    ·cases h1
   ·cases h1; rw [Zoi]; simp
  have hk:∀ p:Str × Int,g.lookup p.1 = some p.2 → g1.lookup p.1 = some p.2:=fun p hp=>by
   unfold stp at h1
   split at h1
   ·split at h1
    ·cases h1; exact hp
    ·cases h1
   ·rename_i hn
    cases h1
    have:p.1 ≠ v.1:=fun e=>by rw [e,hn] at hp; cases hp
    rw [Zoi]
    have:(p.1 == v.1) = false:=by simpa using this
    rw [this]; exact hp
  refine ⟨fun p hp=>i1 p (hk p hp),fun p hp=>?_⟩
  rcases Zof.1 hp with rfl | hp
  ·exact i1 p hv
  ·exact i2 p hp
theorem Zek {κ β:Type} [BEq κ] [LawfulBEq κ] {x:κ} {y:β}:∀ {m:List (κ × β)},m.lookup x = some y → (x,y) ∈ m
 | [],h=>by cases h
 | (u,z) :: m,h=>by
  rw [Zoi] at h
  by_cases e:x == u
  ·rw [e] at h
   simp only [Option.some.injEq] at h
   rw [eq_of_beq e,h]; exact ZnR
  ·simp only [e] at h
   exact ZnZ _ (Zek h)
theorem Zfv {κ β:Type} [BEq κ] [LawfulBEq κ] {x:κ} {y:β}:∀ {m:List (κ × β)},(x,y) ∈ m → ∃ z,m.lookup x = some z
 | (u,z) :: m,h=>by
  rw [Zoi]
  by_cases e:x == u
  ·rw [e]; exact ⟨z,rfl⟩
  ·simp only [e]
   rcases Zof.1 h with h | h
   ·simp only [Prod.mk.injEq] at h
    rw [h.1] at e; simp at e
   ·exact Zfv h
theorem Zfg {t:D.Term} (h:termB t = true) (hs:msz t ≤ 1048576):YU fuel t = some (vtab (vrs t).reverse):=by
 unfold YU
 rw [Zce hs,h]
 unfold termB at h
 simp only [ZnB,ZnO] at h
 have hv:=Zey t
 simp only [Zn4,ZnY,Zn6,ZnI]
 rw [collect fuel t [] h.1.2 hs (by simp; omega) (by unfold fuel; omega)]
 simp only [Zn4,Zoz]
 rw [ZnC (by simp; omega)]
open Cc (vB ZU opB bi)
theorem YJ {a:Int} (h0 : -9223372036854775808 ≤ a) (h1:a ≤ 9223372036854775807):w64 a = a:=Ze (by omega) (by omega)
theorem Zc9 {x:Nat} (h:x < 65536):(BitVec.ofInt 64 (x:Int)).toNat = x:=by
 rw [BitVec.toNat_ofInt]
 have:((x:Int) % ((2 ^ 64:Nat):Int)) = x:=Zqq (by omega) (by simp; omega)
 rw [this]; rfl
theorem Zm8 {x y:Nat} (h:x < 65536):x &&& y < 65536:=Nat.lt_of_le_of_lt Nat.and_le_left h
theorem Zgl {x y:Nat} (hx:x < 65536) (hy:y < 65536):band (x:Int) (y:Int) = ((x &&& y:Nat):Int):=by
 unfold band
 rw [BitVec.toNat_and,Zc9 hx,Zc9 hy]
 have:=Zm8 (y:=y) hx
 exact YJ (by omega) (by omega)
theorem ZlK {x y:Nat} (hx:x < 65536) (hy:y < 65536):bor (x:Int) (y:Int) = ((x ||| y:Nat):Int):=by
 unfold bor
 rw [BitVec.toNat_or,Zc9 hx,Zc9 hy]
 have:x ||| y < 2 ^ 16:=Nat.or_lt_two_pow (by simpa using hx) (by simpa using hy)
 exact YJ (by omega) (by omega)
theorem Zk9 {x y:Nat} (hx:x < 65536) (hy:y < 65536):bxor (x:Int) (y:Int) = ((x ^^^ y:Nat):Int):=by
 unfold bxor
 rw [BitVec.toNat_xor,Zc9 hx,Zc9 hy]
 have:x ^^^ y < 2 ^ 16:=Nat.xor_lt_two_pow (by simpa using hx) (by simpa using hy)
 exact YJ (by omega) (by omega)
theorem p16 {w:Nat} (hw:w ≤ 16):(2:Nat) ^ w ≤ 65536 ∧ 0 < (2:Nat) ^ w:=⟨Zo3 (by omega) hw,ZoT w⟩
theorem ZiX (x:Int) {w:Nat} (hw:w ≤ 16):band x (2 ^ w - 1) = x % 2 ^ w:=by
 unfold band
 obtain ⟨p1,p2⟩:=p16 hw
 have e:((2:Int) ^ w - 1) = ((2 ^ w - 1:Nat):Int):=by rw [Int.natCast_sub p2]; simp
 rw [BitVec.toNat_and,e,Zc9 (by omega),Nat.and_two_pow_sub_one_eq_mod,BitVec.toNat_ofInt]
 have hm:((x % ((2 ^ 64:Nat):Int)).toNat % 2 ^ w:Nat) = (x % (2 ^ w:Nat)).toNat:=by
  have h0:0 ≤ x % ((2 ^ 64:Nat):Int):=Int.emod_nonneg _ (by simp)
  have hd:((2 ^ w:Nat):Int) ∣ ((2 ^ 64:Nat):Int):=Int.natCast_dvd_natCast.2 (Nat.pow_dvd_pow 2 (by omega))
  have h1:=Int.emod_emod_of_dvd x hd
  have h2:(((x % ((2 ^ 64:Nat):Int)).toNat % 2 ^ w:Nat):Int) = x % (2 ^ w:Nat):=by
   rw [ZqL,ZpV h0,h1]
  omega
 rw [hm]
 have h3:0 ≤ x % ((2 ^ w:Nat):Int):=Int.emod_nonneg _ (by omega)
 have h4:x % ((2 ^ w:Nat):Int) < ((2 ^ w:Nat):Int):=Int.emod_lt_of_pos _ (by omega)
 rw [ZpV h3,YJ (by omega) (by omega)]
 simp
theorem Xz {w:Nat} (h1:1 ≤ w) (h2:w ≤ 16) (x:Int):ZN (w:Int) x = some (x % 2 ^ w):=by
 obtain ⟨a1,_,a3,_,_⟩:=ZbY (w:=(w:Int)) (by omega) (by omega)
 unfold ZN Zl
 have e:(decide ((w:Int) ≥ 1) && decide ((w:Int) ≤ 16)) = true:=by simp; omega
 simp only [e,Zn4,ZnY,Zn6,ZnI,a1]
 rw [a3,Zoo,ZiX x h2]
theorem ZaS {l:List Bool} {w:Nat} (h:l.length = w) (h1:1 ≤ w) (h2:w ≤ 16):Z9 (w:Int) (vB l:Int) = some true:=by
 rw [Zcc,(Zez (by omega) (by omega) _).2]
 have:=ZU l
 rw [h] at this
 refine ⟨by omega,?_⟩
 rw [Zoo]
 have e:((2 ^ w:Nat):Int) = 2 ^ w:=by simp
 omega
theorem Zar:∀ (l:List Bool) (i:Nat),(vB l).testBit i = l.getD i false
 | [],i=>by simp [vB]
 | b :: l,0=>by
  rw [vB,Nat.testBit_zero]
  cases b <;> simp [bi] <;> omega
 | b :: l,i + 1=>by
  have e:(bi b + 2 * vB l) / 2 = vB l:=by have:=Cc.bi_le b; omega
  rw [vB,Nat.testBit_succ,e,Zar l i]
  simp
theorem ZfX {a b:List Bool} (h:a.length = b.length) {f:Bool → Bool → Bool} (hf:f false false = false) (i:Nat):((a.zip b).map fun p=>f p.1 p.2).getD i false = f (a.getD i false) (b.getD i false):=by
 simp only [Zn8,ZnW]
 by_cases c:i < a.length
 ·rw [Zn5 (by rw [Zo7]; omega), Zn5 c, Zn5 (by omega)]
  simp
 ·rw [ZnT (by rw [Zo7]; omega), ZnT (by omega), ZnT (by omega)]
  simp [hf]
theorem Zl5 {a b:List Bool} (h:a.length = b.length):vB ((a.zip b).map fun p=>p.1 && p.2) = vB a &&& vB b:=ZpO fun i=>by
 rw [Nat.testBit_and,Zar,Zar,Zar,ZfX (f:=fun p q=>p && q) h rfl]
theorem ZmT {a b:List Bool} (h:a.length = b.length):vB ((a.zip b).map fun p=>p.1 || p.2) = vB a ||| vB b:=ZpO fun i=>by
 rw [Nat.testBit_or,Zar,Zar,Zar,ZfX (f:=fun p q=>p || q) h rfl]
theorem Zmr {a b:List Bool} (h:a.length = b.length):vB ((a.zip b).map fun p=>xor p.1 p.2) = vB a ^^^ vB b:=ZpO fun i=>by
 rw [Nat.testBit_xor,Zar,Zar,Zar,ZfX (f:=fun p q=>xor p q) h rfl]
theorem Ziu:∀ {a b:List Bool} (c:Bool),a.length = b.length → (a.zip b).foldl (fun c p=>c && !(xor p.1 p.2)) c = (c && decide (a = b))
 | [],[],c,_=>by simp
 | x :: a,y :: b,c,h=>by
  rw [Zq7,Zo5,Ziu _ (by simpa using h)]
  cases c <;> cases x <;> cases y <;> simp
theorem Zhh (b:Bool):vB [b] = bi b:=by simp [vB]
theorem ZcE {a b:List Bool} (h:a.length = b.length):Cc.lessB' a b = [decide (vB a < vB b)]:=by
 unfold Cc.lessB'
 obtain ⟨g1,g2⟩:=Cc.addB_val (a:=a) (b:=b.map fun x=>!x) (by rw [Zog]; exact h) true
 have hn:=Cc.vB_not b
 have hl:=ZU (Cc.addB a (b.map fun x=>!x) true).1
 have ha:=ZU a
 have hb:=ZU b
 rw [g1] at hl
 rw [← h] at hb hn
 congr 1
 cases hc:(Cc.addB a (b.map fun x=>!x) true).2
 ·rw [hc] at g2
  simp only [bi,Zn6,ZnI,ZnV,ZpW] at g2
  simp only [Zp6]
  exact (decide_eq_true (by omega)).symm
 ·rw [hc] at g2
  simp only [bi,Zn6,ZnI,ZnV,ZpG] at g2
  simp only [ZnY]
  exact (decide_eq_false (by omega)).symm
theorem Zda {l:List Bool} (h1:1 ≤ l.length):(Cc.flipB l).length = l.length ∧ vB (Cc.flipB l) + (if l.getD (l.length - 1) false then 2 ^ (l.length - 1) else 0) = vB l + (if l.getD (l.length - 1) false then 0 else 2 ^ (l.length - 1)):=by
 unfold Cc.flipB
 refine ⟨by simp,?_⟩
 obtain ⟨m,b,rfl⟩ : ∃ m b,l = m ++ [b]:=⟨l.dropLast,l.getLast (by intro h; rw [h] at h1; simp at h1),(Zqz _).symm⟩
 simp only [ZnD,ZnL,Zom,Zq8]
 rw [ZoL _ _ (by omega),ZoR]
 have hg:(m ++ [b]).getD m.length false = b:=by rw [Zn8,ZnH (by omega)]; simp
 rw [hg]
 simp only [Zpp,Cc.vB_snoc]
 cases b <;> simp [bi]
theorem Zea {l:List Bool} (h1:1 ≤ l.length):l.getD (l.length - 1) false = decide (2 ^ (l.length - 1) ≤ vB l):=by
 obtain ⟨m,b,rfl⟩ : ∃ m b,l = m ++ [b]:=⟨l.dropLast,l.getLast (by intro h; rw [h] at h1; simp at h1),(Zqz _).symm⟩
 simp only [ZnD,ZnL,Zom,Zq8]
 have hg:(m ++ [b]).getD m.length false = b:=by rw [Zn8,ZnH (by omega)]; simp
 rw [hg,Cc.vB_snoc]
 have:=ZU m
 cases b <;> simp [bi] <;> omega
theorem Zb0 {l:List Bool} {w:Nat} (h:l.length = w) (h1:1 ≤ w) (h2:w ≤ 16):Yw (w:Int) (vB l:Int) = some (if l.getD (w - 1) false then (vB l:Int) - 2 ^ w else vB l):=by
 obtain ⟨a1,_,a3,_,a5⟩:=ZbY (w:=(w:Int)) (by omega) (by omega)
 unfold Yw
 rw [ZaS h h1 h2]
 have hv:=ZU l
 rw [h] at hv
 have hp:=p16 h2
 have ew:w64 ((w:Int) - 1) = ((w - 1:Nat):Int):=by rw [YJ (by omega) (by omega)]; omega
 simp only [Zn4,ZnY,Zn6,ZnI]
 rw [ew,ZeL _ (by omega),Zoo,Zop (by omega)]
 simp only [Zn4]
 have hpw:2 ^ w = 2 * 2 ^ (w - 1):=by rw [show w = w - 1 + 1 by omega,Zpv,Zo1]; rfl
 have ht:=Zea (l:=l) (by omega)
 rw [h] at ht
 have hd:((vB l:Int)).fdiv (2 ^ (w - 1)) = ((vB l / 2 ^ (w - 1):Nat):Int):=by
  have:((2:Int) ^ (w - 1)) = ((2 ^ (w - 1):Nat):Int):=by simp
  rw [this,Zpt _ (by omega),Zp4]
 rw [hd,ht]
 have hw2:((2:Int) ^ w) = ((2 ^ w:Nat):Int):=by simp
 by_cases c:2 ^ (w - 1) ≤ vB l
 ·have e:vB l / 2 ^ (w - 1) = 1:=by
   have:vB l = 2 ^ (w - 1) * 1 + (vB l - 2 ^ (w - 1)):=by omega
   rw [this,ZqW (ZoT _),ZoX (by omega)]
  rw [e]
  simp only [c,decide_true,ZnV,Int.natCast_one,Zph,a1,Zn4,Zoo]
  rw [YJ (by omega) (by omega)]
 ·have e : vB l / 2 ^ (w - 1) = 0 := ZoX (by omega)
  rw [e]
  simp [c]
theorem cpow (w:Nat):((2:Int) ^ w) = ((2 ^ w:Nat):Int):=by simp
theorem Zmw:∀ w:Nat,w < 17 → 1 ≤ w → Cc.lg w ≤ w ∧ w ≤ 2 ^ Cc.lg w:=by decide
theorem Zbb (x:Nat) (w:Nat):(x:Int) % 2 ^ w = ((x % 2 ^ w:Nat):Int):=by rw [cpow,ZqL]
theorem ZiJ {q S W:Nat} (h1:q < S) (h2:S ≤ W):((q:Int) - (S:Int)) % (W:Int) = ((q + (W - S):Nat):Int):=by
 rw [show ((q:Int) - S) = ((q + (W - S):Nat):Int) + (W:Int) * (-1) by omega,Zq4,Zqq (by omega) (by omega)]
section
variable {w:Nat} {a b:List Bool} (h1:1 ≤ w) (h2:w ≤ 16) (ha:a.length = w) (hb:b.length = w)
include h1 h2 ha hb
theorem Znp:ZN (w:Int) (w64 ((vB a:Int) + vB b)) = some (vB (Cc.addB a b false).1:Int):=by
 have va:=ZU a; have vb:=ZU b
 obtain ⟨g1,g2⟩:=Cc.addB_val (ha.trans hb.symm) false
 have gl:=ZU (Cc.addB a b false).1
 rw [g1] at gl
 rw [ha] at va gl g2; rw [hb] at vb
 have hp:=p16 (w:=w) (by omega)
 rw [YJ (by omega) (by omega),Xz h1 (by omega),show ((vB a:Int) + vB b) = ((vB a + vB b:Nat):Int) by omega,Zbb]
 have e:(vB a + vB b) % 2 ^ w = vB (Cc.addB a b false).1:=by
  have:vB a + vB b = vB (Cc.addB a b false).1 + 2 ^ w * bi (Cc.addB a b false).2:=by
   rw [Zo1]; simp only [bi,Zn6,ZnI] at g2 ⊢; omega
  rw [this,Zp9,Zps gl]
 rw [e]
theorem Zmz:ZN (w:Int) (w64 ((vB a:Int) - vB b)) = some (vB (Cc.addB a (b.map fun x=>!x) true).1:Int):=by
 have va:=ZU a; have vb:=ZU b
 obtain ⟨g1,g2⟩:=Cc.addB_val (a:=a) (b:=b.map fun x=>!x) (by rw [Zog]; exact ha.trans hb.symm) true
 have gl:=ZU (Cc.addB a (b.map fun x=>!x) true).1
 have hn:=Cc.vB_not b
 rw [g1] at gl
 rw [ha] at va gl g2; rw [hb] at vb hn
 have hp:=p16 (w:=w) (by omega)
 rw [YJ (by omega) (by omega),Xz h1 (by omega)]
 generalize Cc.addB a (b.map fun x=>!x) true = S at *
 have hb1:=Cc.bi_le S.2
 have e:((vB a:Int) - vB b) % 2 ^ w = (vB S.1:Int):=by
  rw [cpow]
  rcases Zp1 (bi S.2) 1 with c | c
  ·have c0 : bi S.2 = 0 := by omega
   rw [c0] at g2
   simp only [bi,ZnV,ZpW,ZoQ] at g2
   rw [show ((vB a:Int) - vB b) = (vB S.1:Int) + ((2 ^ w:Nat):Int) * (-1) by omega,Zq4,Zqq (by omega) (by omega)]
  ·have c0 : bi S.2 = 1 := by omega
   rw [c0] at g2
   simp only [bi,ZnV,ZpG] at g2
   rw [show ((vB a:Int) - vB b) = (vB S.1:Int) by omega,Zqq (by omega) (by omega)]
 rw [e]
theorem Znv:ZN (w:Int) (w64 ((vB a:Int) * vB b)) = some (vB (Cc.mulB a b a.length):Int):=by
 have va:=ZU a; have vb:=ZU b
 obtain ⟨-,g2⟩:=Cc.mul_num (ha.trans hb.symm)
 rw [ha] at va; rw [hb] at vb
 have hp:=p16 (w:=w) (by omega)
 have hm:vB a * vB b < 65536 * 65536:=Zq5 (by omega) (by omega)
 rw [← Zqj,YJ (by omega) (by omega),Xz h1 (by omega),Zbb,g2,ha]
omit hb in
theorem Zng:Yw (w:Int) (vB a:Int) = some (if a.getD (w - 1) false then (vB a:Int) - 2 ^ w else vB a):=Zb0 ha h1 (by omega)
theorem ZlH {op:Int} (ho:3 ≤ op ∧ op ≤ 16):YR op (w:Int) (vB a) (vB b) = some (vB (opB op a b):Int):=by
 have va:=ZU a; have vb:=ZU b
 rw [ha] at va; rw [hb] at vb
 have hp:=p16 (w:=w) (by omega)
 have hab:=ha.trans hb.symm
 obtain ⟨lg1,lg2⟩:=Zmw a.length (by omega) (by omega)
 unfold YR
 rw [ZaS ha h1 (by omega),ZaS hb h1 (by omega)]
 simp only [Zn4,ZnY,Zn6,ZnI,ZpB]
 unfold opB
 rcases Cc.op_cases ho with rfl | rfl | rfl | rfl | rfl | rfl | rfl | rfl | rfl | rfl | rfl | rfl | rfl | rfl
 all_goals simp only [Int.reduceBEq,Int.reduceEq,Zn6,ZnV,ZnI]
 ·rw [Znp h1 h2 ha hb]; rfl
 ·rw [Zmz h1 h2 ha hb]; rfl
 ·rw [Znv h1 h2 ha hb]; rfl
 ·obtain ⟨-, -, -, g⟩ := Cc.div_num hab
  rw [g]
  by_cases c:vB b = 0
  ·rw [c]
   obtain ⟨a1,_,a3,_,_⟩:=ZbY (w:=(w:Int)) (by omega) (by omega)
   simp only [ZpP,Zph,ZnV,a1,Zn4]
   rw [a3,Zoo,ha,cpow]
   congr 1; omega
  ·have : ((vB b : Int) == 0) = false := by simpa using c
   rw [this]
   simp only [Zn6,ZnI,ZnA c]
   unfold quo?
   rw [ZnA (by omega)]
   simp only [Zn4]
   have hd:vB a / vB b ≤ vB a:=Nat.div_le_self _ _
   rw [Zq6 (by omega),← Zp4]
   generalize vB a / vB b = q at hd ⊢
   rw [YJ (by omega) (by omega)]
 ·obtain ⟨-, -, g, -⟩ := Cc.div_num hab
  rw [g]
  by_cases c:vB b = 0
  ·rw [c]; simp
  ·have : ((vB b : Int) == 0) = false := by simpa using c
   rw [this]
   simp only [Zn6,ZnI,ZnA c]
   unfold rem?
   rw [ZnA (by omega)]
   simp only [Zn4]
   have hd:vB a % vB b ≤ vB a:=Nat.mod_le _ _
   rw [Int.tmod_eq_emod_of_nonneg (by omega),← ZqL]
 ·rw [Zgl (by omega) (by omega),Zl5 hab]
 ·rw [ZlK (by omega) (by omega),ZmT hab]
 ·rw [Zk9 (by omega) (by omega),Zmr hab]
 ·rw [Cc.shP_val hab lg1 lg2, Cc.shl_num, ha]
  by_cases c:w ≤ vB b
  ·have : decide ((vB b : Int) ≥ w) = true := decide_eq_true (by omega)
   rw [this]
   have hq:2 ^ vB b = 2 ^ w * 2 ^ (vB b - w):=by rw [← ZpU]; congr 1; omega
   rw [hq,Zo1 (vB a),ZoF,Nat.mul_mod_right]
   rfl
  ·have : decide ((vB b : Int) ≥ w) = false := decide_eq_false (by omega)
   rw [this]
   simp only [Zn6,ZnI]
   rw [Zh4 _ (by omega),Zoo,Zop (by omega)]
   have hm:vB a * 2 ^ vB b < 65536 * 65536:=Zq5 (by omega) (ZnQ (Nat.pow_lt_pow_right (by omega) (by omega)) (p16 (w:=w) (by omega)).1)
   simp only [Zn4]
   rw [cpow,← Zqj,YJ (by omega) (by omega),Xz h1 (by omega),Zbb]
   rfl
 ·rw [Cc.shP_val hab lg1 lg2, Cc.shr_num]
  by_cases c:w ≤ vB b
  ·have : decide ((vB b : Int) ≥ w) = true := decide_eq_true (by omega)
   rw [this,ZoX (ZnQ va (Zo3 (by omega) c))]
   rfl
  ·have : decide ((vB b : Int) ≥ w) = false := decide_eq_false (by omega)
   rw [this]
   simp only [Zn6,ZnI]
   rw [ZeL _ (by omega),Zoo,Zop (by omega)]
   simp only [Zn4]
   rw [cpow,Zpt _ (Zqk _),← Zp4]
 ·rw [Cc.shP_val hab lg1 lg2, Zng h1 h2 ha]
  simp only [Zn4]
  obtain ⟨s,hs1,hs2,hs3⟩ : ∃ s:Nat,cond (decide ((vB b:Int) ≥ w)) (w64 ((w:Int) - 1)) (vB b:Int) = s ∧ s ≤ w - 1 ∧ (s = vB b ∨ s = w - 1 ∧ w ≤ vB b):=by
   by_cases c:w ≤ vB b
   ·refine ⟨w - 1, ?_, ZnK _, .inr ⟨rfl, c⟩⟩
    rw [decide_eq_true (show (vB b:Int) ≥ w by omega),cond_true,YJ (by omega) (by omega)]; omega
   ·refine ⟨vB b, ?_, by omega, .inl rfl⟩
    rw [decide_eq_false (show ¬ (vB b:Int) ≥ w by omega),cond_false]
  rw [hs1,ZeL _ (by omega),Zoo,Zop (by omega)]
  simp only [Zn4]
  have ht:=Zea (l:=a) (by omega)
  rw [ha] at ht ⊢
  have hfd:∀ x:Int,x.fdiv (2 ^ s) = x / 2 ^ s:=fun x=>Zpt _ (by rw [cpow]; exact Zqk _)
  have hps:0 < 2 ^ s:=ZoT s
  have hpw:2 ^ w = 2 ^ (w - s) * 2 ^ s:=by rw [← ZpU]; congr 1; omega
  have hpu:2 ^ (w - s) ≤ 2 ^ w:=Zo3 (by omega) (by omega)
  have hdl:vB a / 2 ^ s < 2 ^ (w - s):=Nat.div_lt_of_lt_mul (by rw [Zo1,← hpw]; exact va)
  have hw1:2 ^ w = 2 * 2 ^ (w - 1):=by rw [show w = w - 1 + 1 by omega,Zpv,Zo1]; rfl
  rw [hfd]
  cases hf:a.getD (w - 1) false
  ·simp only [Zn6, ZnI]
   have e0:(vB a:Int) / 2 ^ s = ((vB a / 2 ^ s:Nat):Int):=by rw [cpow,Zp4]
   rw [e0,Xz h1 (by omega),Zbb]
   have hl:=Cc.shr_num (a:=a) (vB b)
   rw [ha] at hl
   rw [hl,Zps (by omega)]
   rcases hs3 with rfl | ⟨rfl,hs4⟩
   ·rfl
   ·rw [hf] at ht
    have hlt:¬ 2 ^ (w - 1) ≤ vB a:=fun h=>by rw [decide_eq_true h] at ht; cases ht
    rw [ZoX (by omega),ZoX (ZnQ va (Zo3 (by omega) hs4))]
    rfl
  ·simp only [ZnV]
   rw [hf] at ht
   have hle:2 ^ (w - 1) ≤ vB a:=of_decide_eq_true ht.symm
   have e0:((vB a:Int) - 2 ^ w) / 2 ^ s = ((vB a / 2 ^ s:Nat):Int) - ((2 ^ (w - s):Nat):Int):=by
    rw [cpow,cpow,hpw,show ((vB a:Int) - ((2 ^ (w - s) * 2 ^ s:Nat):Int)) = (vB a:Int) + ((2 ^ s:Nat):Int) * (-((2 ^ (w - s):Nat):Int)) by rw [Zqj,Int.mul_neg,Int.mul_comm]; omega,Int.add_mul_ediv_left _ _ (by omega),Zp4]
    omega
   rw [e0,Xz h1 (by omega)]
   have hl:=Cc.sar_num (a:=a) (vB b)
   rw [ha] at hl
   rw [hl]
   have e1:(((vB a / 2 ^ s:Nat):Int) - ((2 ^ (w - s):Nat):Int)) % 2 ^ w = ((vB a / 2 ^ s + (2 ^ w - 2 ^ (w - s)):Nat):Int):=by
    rw [cpow]; exact ZiJ hdl hpu
   rw [e1]
   rcases hs3 with rfl | ⟨rfl,hs4⟩
   ·rfl
   ·have d1:vB a / 2 ^ (w - 1) = 1:=by
     have:vB a = 2 ^ (w - 1) * 1 + (vB a - 2 ^ (w - 1)):=by omega
     rw [this,ZqW (ZoT _),ZoX (by omega)]
    have d2:vB a / 2 ^ vB b = 0:=ZoX (ZnQ va (Zo3 (by omega) hs4))
    have:=ZoT (w - 1)
    rw [d1,d2,show w - (w - 1) = 1 by omega,show w - vB b = 0 by omega,Nat.pow_one,Nat.pow_zero]
    exact congrArg (fun n:Nat=>some (n:Int)) (by omega)
 ·rw [Ziu _ hab]
  unfold YA
  rw [Zhh,ZoK]
  by_cases c:a = b
  ·subst c; simp [bi]
  ·have:((vB a:Int) == vB b) = false:=by
    simp only [beq_eq_false_iff_ne,ne_eq]
    exact fun h=>c (Cc.vB_inj hab (by omega))
   rw [this]; simp [c,bi]
 ·rw [ZcE hab, Zhh]
  unfold YA
  by_cases c:vB a < vB b
  ·rw [decide_eq_true (show (vB a:Int) < vB b by omega),decide_eq_true c]; rfl
  ·rw [decide_eq_false (show ¬ (vB a:Int) < vB b by omega),decide_eq_false c]; rfl
 ·obtain ⟨fa1, fa2⟩ := Zda (l := a) (by omega)
  obtain ⟨fb1,fb2⟩:=Zda (l:=b) (by omega)
  have ta:=Zea (l:=a) (by omega)
  have tb:=Zea (l:=b) (by omega)
  rw [ha] at fa2 ta; rw [hb] at fb2 tb
  rw [ZcE (fa1.trans (hab.trans fb1.symm)),Zhh,Zb0 ha h1 (by omega),Zb0 hb h1 (by omega)]
  simp only [Zn4]
  unfold YA
  have hw1:2 ^ w = 2 * 2 ^ (w - 1):=by rw [show w = w - 1 + 1 by omega,Zpv,Zo1]; rfl
  have key:decide ((if a.getD (w - 1) false then (vB a:Int) - 2 ^ w else vB a) < (if b.getD (w - 1) false then (vB b:Int) - 2 ^ w else vB b)) = decide (vB (Cc.flipB a) < vB (Cc.flipB b)):=by
   rw [cpow]
   cases xa:a.getD (w - 1) false <;> cases xb:b.getD (w - 1) false <;> simp only [xa,xb,Zn6,ZnI,ZnV] at fa2 fb2 ⊢ <;> rw [xa] at ta <;> rw [xb] at tb <;> refine decide_eq_decide.2 ?_ <;> simp only [eq_comm (a:=false),eq_comm (a:=true),decide_eq_false_iff_not,ZnO] at ta tb <;> omega
  rw [key]
  cases decide (vB (Cc.flipB a) < vB (Cc.flipB b)) <;> rfl
end
open Cc (BS LS CircP Grow GoodL Good litN lines negs seqP ifP opP net RelB FOk XD Yr litN_iff litN_mono ZB litV ev LstF SemL vB ZU opB bi)
def finB (op:Int) (w m:Nat) (ks:List (List Bool)):List Bool:=
 if op = 1 then (ks.getD 0 []).map (fun b=>!b)
 else if op = 2 then opB 4 (List.replicate w false) (ks.getD 0 [])
 else if op = 17 then ((ks.getD 1 []).zip (ks.getD 2 [])).map fun p=>cond ((ks.getD 0 []).getD 0 false) p.1 p.2
 else if op = 18 then ks.getD 1 [] ++ ks.getD 0 []
 else if op = 19 then ((ks.getD 0 []).drop m).take w
 else if op = 20 then ks.getD 0 [] ++ List.replicate (w - (ks.getD 0 []).length) false
 else if op = 21 then ks.getD 0 [] ++ List.replicate (w - (ks.getD 0 []).length) ((ks.getD 0 []).getD ((ks.getD 0 []).length - 1) false)
 else opB op (ks.getD 0 []) (ks.getD 1 [])
mutual
def tB (vs:List D.Value) (E:List Bool):D.Term → List Bool
 | ⟨op,w,m,nm,ks⟩=>if op = 0 then (List.range w.toNat).map (bitI m) else if op = 22 then (varL vs nm w.toNat).map (litV E) else finB op w.toNat m.toNat (tBs vs E ks)
def tBs (vs:List D.Value) (E:List Bool):List D.Term → List (List Bool)
 | []=>[]
 | t :: l=>tB vs E t :: tBs vs E l
end
theorem Zlp (vs:List D.Value) (E:List Bool) (t:D.Term):tB vs E t = if t.Op = 0 then (List.range t.W.toNat).map (bitI t.N) else if t.Op = 22 then (varL vs t.Name t.W.toNat).map (litV E) else finB t.Op t.W.toNat t.N.toNat (tBs vs E t.Kids):=by cases t; rw [tB]
theorem ZfY (vs:List D.Value) (E:List Bool):tBs vs E [] = []:=by rw [tBs]
theorem Zew (vs:List D.Value) (E:List Bool) (t:D.Term) (l:List D.Term):tBs vs E (t :: l) = tB vs E t :: tBs vs E l:=by rw [tBs]
theorem Zgd {c:D.Circuit} {v:List Bool} (n:Nat):(List.replicate n (-1:Int)).map (litV (ev c v)) = List.replicate n false:=by rw [Zqb,Cc.ev_m1]
theorem fin_nf {s:BS} {t:D.Term} {ls:List (List Int)} (hb:nodeB t = true) (hs:CircP s.1) (h0:t.Op ≠ 0) (h22:t.Op ≠ 22) (hk:KK s t.Kids ls):LstF s (fin t.Op t.W.toNat t.N.toNat ls s) (fun E=>finB t.Op t.W.toNat t.N.toNat (ls.map fun l=>l.map (litV E))):=by
 obtain ⟨op,w,m,nm,ks⟩:=t
 obtain ⟨hw,hsh⟩:=Y3 hb
 simp only at h0 h22 hk ⊢
 rcases hsh with ⟨rfl,-⟩ | ⟨rfl,-⟩ | ⟨ho,-,-,a,rfl,ha,haw⟩ | ⟨h3,h16,-,-,a,b,rfl,ha,hb',hab,h13,h14⟩ | ⟨rfl,-,-,a,b,c,rfl,ha,hb',hc,ha1,hbw,hcw⟩ | ⟨rfl,-,-,a,b,rfl,ha,hb',habw⟩ | ⟨rfl,-,hm0,hm1,a,rfl,ha,haw⟩ | ⟨ho,-,-,a,rfl,ha,haw⟩
 ·exact absurd rfl h0
 ·exact absurd rfl h22
 ·obtain ⟨la, r1, k1, hn1, rfl⟩ := KK1 hk
  obtain rfl:=KK0 hn1
  have hl:la.length = w.toNat:=by rw [k1.1,haw]
  unfold fin finB
  simp only [ZnE,Zoy,Zob]
  rcases ho with rfl | rfl
  ·simp only [ZnV]
   exact ⟨fun h=>h,fun _ c' _ _ v _=>Cc.negs_bits k1.2⟩
  ·simp only [show ¬ ((2 : Int) = 1) by decide, ZnI, ZnV]
   split
   ·exact ⟨fun h=>(by cases h),fun h=>(by cases h)⟩
   ·rename_i h16
    have q:=(Cc.op_nf (s:=s) (a:=List.replicate w.toNat (-1)) (b:=la) (by simp [hl]) (by simp; omega) (by simp; omega) (ZcR hs) k1.2 hs (op:=4) (by omega)).2
    exact q.cong fun c' v=>by rw [Zgd]
 ·obtain ⟨la, r1, k1, hn1, rfl⟩ := KK1 hk
  obtain ⟨lb,r2,k2,hn2,rfl⟩:=KK1 hn1
  obtain rfl:=KK0 hn2
  have hA:=Yf ha
  unfold fin finB
  simp only [ZnE,Zoy,Zob,Zot]
  rw [ZnA (by omega),ZnA (by omega),ZnA (by omega),ZnA (by omega),ZnA (by omega),ZnA (by omega),ZnA (by omega)]
  have e:∀ E:List Bool,(if op = 1 then (la.map (litV E)).map (fun b=>!b) else if op = 2 then opB 4 (List.replicate w.toNat false) (la.map (litV E)) else if op = 17 then ((lb.map (litV E)).zip ([]:List Bool)).map (fun p=>cond ((la.map (litV E)).getD 0 false) p.1 p.2) else if op = 18 then lb.map (litV E) ++ la.map (litV E) else if op = 19 then ((la.map (litV E)).drop m.toNat).take w.toNat
    else if op = 20 then la.map (litV E) ++ List.replicate (w.toNat - (la.map (litV E)).length) false else if op = 21 then la.map (litV E) ++ List.replicate (w.toNat - (la.map (litV E)).length) ((la.map (litV E)).getD ((la.map (litV E)).length - 1) false) else opB op (la.map (litV E)) (lb.map (litV E))) = opB op (la.map (litV E)) (lb.map (litV E)):=fun E=>by
   rw [ZnA (by omega),ZnA (by omega),ZnA (by omega),ZnA (by omega),ZnA (by omega),ZnA (by omega),ZnA (by omega)]
  split
  ·exact ⟨fun h=>(by cases h),fun h=>(by cases h)⟩
  ·rename_i h16'
   have q:=(Cc.op_nf (s:=s) (a:=la) (b:=lb) (by rw [k1.1,k2.1,hab]) (by have:=k1.1; omega) (by have:=k1.1; omega) k1.2 k2.2 hs (op:=op) ⟨h3,h16⟩).2
   exact q.cong fun c' v=>(e _).symm
 ·obtain ⟨la, r1, k1, hn1, rfl⟩ := KK1 hk
  obtain ⟨lb,r2,k2,hn2,rfl⟩:=KK1 hn1
  obtain ⟨lc,r3,k3,hn3,rfl⟩:=KK1 hn2
  obtain rfl:=KK0 hn3
  unfold fin finB
  simp only [ZnE,Zoy,Zob,Zot,show ¬ ((17:Int) = 1) by decide,show ¬ ((17:Int) = 2) by decide,ZnI,ZnV]
  have hla:0 < la.length:=by rw [k1.1,ha1]; decide
  have hc0:litN (lines s.1) (la.getD 0 0) = true:=k1.2 _ (Cc.getD_mem hla)
  have q:=Cc.seq_nf (s:=s) (l:=lb.zip lc) (g:=fun p e=>cond (litV e (la.getD 0 0)) (litV e p.1) (litV e p.2)) hs (ZkK hs hc0 k2.2 k3.2) (fun s' p hc' hgr hp=>by
   have hp':=Zqg hp
   exact Cc.if_nf hc' (litN_mono (k2.2 _ hp'.1) hgr.lines) (litN_mono (k3.2 _ hp'.2) hgr.lines) (litN_mono hc0 hgr.lines))
  exact q.cong fun c' v=>by rw [← Cc.getD_bits hla,ZqA,ZoG]; rfl
 ·obtain ⟨la, r1, k1, hn1, rfl⟩ := KK1 hk
  obtain ⟨lb,r2,k2,hn2,rfl⟩:=KK1 hn1
  obtain rfl:=KK0 hn2
  unfold fin finB
  simp only [ZnE,Zoy,Zob,Zot,show ¬ ((18:Int) = 1) by decide,show ¬ ((18:Int) = 2) by decide,show ¬ ((18:Int) = 17) by decide,ZnI,ZnV]
  exact ⟨fun h=>h,fun _ c' _ _ v _=>Zo2⟩
 ·obtain ⟨la, r1, k1, hn1, rfl⟩ := KK1 hk
  obtain rfl:=KK0 hn1
  unfold fin finB
  simp only [ZnE,Zoy,Zob,Zot,show ¬ ((19:Int) = 1) by decide,show ¬ ((19:Int) = 2) by decide,show ¬ ((19:Int) = 17) by decide,show ¬ ((19:Int) = 18) by decide,ZnI,ZnV]
  exact ⟨fun h=>h,fun _ c' _ _ v _=>by rw [Zp5,ZqI]⟩
 ·obtain ⟨la, r1, k1, hn1, rfl⟩ := KK1 hk
  obtain rfl:=KK0 hn1
  have hA:=Yf ha
  have hla:0 < la.length:=by rw [k1.1]; omega
  unfold fin finB
  rcases ho with rfl | rfl
  ·simp only [ZnE, Zoy, Zob, Zot, show ¬ ((20 : Int) = 1) by decide, show ¬ ((20 : Int) = 2) by decide, show ¬ ((20 : Int) = 17) by decide, show ¬ ((20 : Int) = 18) by decide, show ¬ ((20 : Int) = 19) by decide, ZnI, ZnV]
   exact ⟨fun h=>h,fun _ c' _ _ v _=>by rw [Zo2,Zgd,Zog]⟩
  ·simp only [ZnE, Zoy, Zob, Zot, show ¬ ((21 : Int) = 1) by decide, show ¬ ((21 : Int) = 2) by decide, show ¬ ((21 : Int) = 17) by decide, show ¬ ((21 : Int) = 18) by decide, show ¬ ((21 : Int) = 19) by decide, show ¬ ((21 : Int) = 20) by decide, ZnI, ZnV]
   exact ⟨fun h=>h,fun _ c' _ _ v _=>by rw [Zo2,Zqb,Zog,← Cc.getD_bits (by omega)]⟩
theorem Zl0 {s:BS} (w:Nat) (v:Int):LstF s (wordL w v,s) (fun _=>(List.range w).map (bitI v)):=⟨fun h=>h,fun _ c' _ _ x _=>by
 unfold wordL
 rw [ZoG]
 refine ZoS fun k _=>?_
 simp only [Function.comp]
 cases bitI v k
 ·exact Cc.ev_m1
 ·exact Cc.ev_one⟩
theorem Zls {vs:List D.Value}:∀ (l:List D.Term) (s:BS),(∀ t ∈ l,∀ s:BS,CircP s.1 → VF vs s.1 → GoodL s t.W.toNat (nP vs t s) ∧ LstF s (nP vs t s) (fun E=>tB vs E t)) → CircP s.1 → VF vs s.1 →
  ((nPs vs l s).2.2 = false → s.2 = false ∧ ∀ c',CircP c' → Grow (nPs vs l s).2.1 c' → ∀ v:List Bool,(v.length:Int) = c'.Inputs → (nPs vs l s).1.map (fun x=>x.map (litV (ev c' v))) = tBs vs (ev c' v) l)
 | [],s,_,hs,_=>by rw [ZfZ]; exact fun h=>⟨h,fun c' _ _ v _=>by rw [ZfY]; rfl⟩
 | t :: l,s,h,hs,hv=>by
  rw [ZcD]
  obtain ⟨g,f⟩:=h t (by simp) s hs hv
  have q:=Zls l (nP vs t s).2 (fun x hx=>h x (by simp [hx])) g.circ (hv.mono g.grow)
  obtain ⟨-,qg,-⟩:=Zbf l (nP vs t s).2 (fun x hx s hs hv=>(h x (by simp [hx]) s hs hv).1) g.circ (hv.mono g.grow)
  intro hn
  obtain ⟨q1,q2⟩:=q hn
  refine ⟨f.full q1,fun c' hc hg v hv'=>?_⟩
  simp only [ZnE]
  rw [q2 c' hc hg v hv',f.sem q1 c' hc (qg.trans hg) v hv',Zew]
theorem Zn3 {vs:List D.Value} (hp:vs.Pairwise fun x y=>x.Name ≠ y.Name):∀ (n:Nat) (t:D.Term) (s:BS),cnt t ≤ n → nodeB t = true → TV vs t → CircP s.1 → VF vs s.1 → LstF s (nP vs t s) (fun E=>tB vs E t):=by
 intro n
 induction n with
 | zero=>intro t s h; have:=Xk t; omega
 | succ n ih=>
  intro t s hc hb ht hs hv
  have e:(fun E=>tB vs E t) = fun E=>if t.Op = 0 then (List.range t.W.toNat).map (bitI t.N) else if t.Op = 22 then (varL vs t.Name t.W.toNat).map (litV E) else finB t.Op t.W.toNat t.N.toNat (tBs vs E t.Kids):=funext fun E=>Zlp vs E t
  rw [Zio,e]
  by_cases h0:t.Op = 0
  ·simp only [ZnC h0]; exact Zl0 _ _
  simp only [ZnA h0]
  by_cases h22:t.Op = 22
  ·simp only [ZnC h22]
   exact ⟨fun h=>h,fun _ c' _ _ v _=>rfl⟩
  simp only [ZnA h22]
  have hcn:=Xk t
  have hkid:∀ x ∈ t.Kids,∀ s':BS,CircP s'.1 → VF vs s'.1 → GoodL s' x.W.toNat (nP vs x s') ∧ LstF s' (nP vs x s') (fun E=>tB vs E x):=fun x hx s' hs' hv'=>⟨Zci hp _ x s' (ZnK _) (nodeK hb x hx) (Zc2 ht h22 hx) hs' hv',ih x s' (by have:=Xn hx; omega) (nodeK hb x hx) (Zc2 ht h22 hx) hs' hv'⟩
  obtain ⟨q1,q2,q3⟩:=Zbf t.Kids s (fun x hx s' hs' hv'=>(hkid x hx s' hs' hv').1) hs hv
  have g:=fin_good hb q1 h0 h22 q3
  have f:=fin_nf hb q1 h0 h22 q3
  have k:=Zls t.Kids s hkid hs hv
  refine ⟨fun hn=>(k (f.full hn)).1,fun hn c' hc' hg v hv'=>?_⟩
  exact (f.sem hn c' hc' hg v hv').trans (congrArg (finB t.Op t.W.toNat t.N.toNat) ((k (f.full hn)).2 c' hc' (g.grow.trans hg) v hv'))
open Cc (BS LS CircP Grow litV ev vB ZU opB bi)
theorem Zgi {m:Nat} (hm:m < 65536) (k:Nat) (hk:k ≤ 60):bitI (m:Int) k = m.testBit k:=by
 unfold bitI
 rw [ZeL _ (by omega),Zoo,Zop (by omega),cpow,Zpt _ (Zqk _),← Zp4]
 have hd:m / 2 ^ k ≤ m:=Nat.div_le_self _ _
 simp only
 rw [show (1:Int) = ((1:Nat):Int) from rfl,Zgl (by omega) (by omega),Nat.and_one_is_mod,Nat.testBit_eq_decide_div_mod_eq]
 rcases Nat.mod_two_eq_zero_or_one (m / 2 ^ k) with h | h <;> rw [h] <;> rfl
theorem ZeI {w:Nat} (hw:w ≤ 16) {v:Int} (h0:0 ≤ v) (h1:v < 2 ^ w):(vB ((List.range w).map (bitI v)):Int) = v:=by
 obtain ⟨m,rfl⟩:=Zql h0
 have hp:=p16 hw
 rw [cpow] at h1
 have hm:m < 2 ^ w:=by exact Int.ofNat_lt.1 h1
 have:vB ((List.range w).map (bitI (m:Int))) = m:=ZpO fun i=>by
  rw [Zar,Zn8,ZnW]
  by_cases c:i < w
  ·rw [Zp2 c]
   exact Zgi (by omega) i (by omega)
  ·rw [ZnT (by simp; omega)]
   exact (Nat.testBit_lt_two_pow (ZnQ hm (Zo3 (by omega) (by omega)))).symm
 rw [this]
theorem Zk8:∀ {a b:List Bool} (c:Bool),a.length = b.length → ((a.zip b).map fun p=>cond c p.1 p.2) = cond c a b
 | a,b,true,h=>by simp only [cond_true]; exact List.map_fst_zip (by omega)
 | a,b,false,h=>by simp only [cond_false]; exact List.map_snd_zip (by omega)
theorem Zml (l:List Bool) (k:Nat):vB (l.take k) = vB l % 2 ^ k:=by
 by_cases c:k ≤ l.length
 ·have h := Cc.vB_split l c
  have hl:=ZU (l.take k)
  rw [ZnF,Zop c] at hl
  rw [h,Zp9,Zps hl]
 ·have hl := ZU l
  rw [Zov (by omega),Zps (ZnQ hl (Zo3 (by omega) (by omega)))]
section
variable {w:Nat} (h1:1 ≤ w) (h2:w ≤ 16)
include h1 h2
theorem Znj {a:List Bool} (ha:a.length = w):Y4 1 (w:Int) (vB a) = some (vB (a.map fun b=>!b):Int):=by
 obtain ⟨a1,_,a3,_,_⟩:=ZbY (w:=(w:Int)) (by omega) (by omega)
 unfold Y4
 rw [ZaS ha h1 h2]
 simp only [Zn4,ZnY,Zn6,ZnI,Zph,ZnV,a1]
 rw [a3,Zoo,cpow]
 have hn:=Cc.vB_not a
 have hp:=p16 h2
 rw [ha] at hn
 rw [YJ (by omega) (by omega)]
 congr 1; omega
theorem Znz {a:List Bool} (ha:a.length = w):Y4 2 (w:Int) (vB a) = some (vB (opB 4 (List.replicate w false) a):Int):=by
 unfold Y4
 rw [ZaS ha h1 h2]
 simp only [Zn4,ZnY,Zn6,ZnI,Int.reduceBEq,ZnV]
 have q:=Zmz h1 h2 (a:=List.replicate w false) (b:=a) (by simp) ha
 rw [Cc.vB_rep] at q
 rw [show (0:Int) - (vB a:Int) = ((0:Nat):Int) - vB a from rfl,q]
 unfold opB
 simp only [Int.reduceEq,ZnI,ZnV]
 rfl
theorem Zm7 {a:List Bool} {n:Nat} (ha:a.length = n) (hn1:1 ≤ n) (hn:n ≤ w):YG (n:Int) (vB a) (w:Int) false = some (vB (a ++ List.replicate (w - n) false):Int):=by
 unfold YG
 rw [ZaS ha hn1 (by omega)]
 simp only [Zn4,ZnY,Zo4]
 rw [decide_eq_false (show ¬ (w:Int) < n by omega),decide_eq_false (show ¬ (w:Int) > 16 by omega),Cc.vB_app,Cc.vB_rep]
 simp
theorem Zjv {a:List Bool} {n:Nat} (ha:a.length = n) (hn1:1 ≤ n) (hn:n ≤ w):YG (n:Int) (vB a) (w:Int) true = some (vB (a ++ List.replicate (w - n) (a.getD (n - 1) false)):Int):=by
 unfold YG
 rw [ZaS ha hn1 (by omega)]
 simp only [Zn4,ZnY,Zo4]
 rw [decide_eq_false (show ¬ (w:Int) < n by omega),decide_eq_false (show ¬ (w:Int) > 16 by omega),Zb0 ha hn1 (by omega)]
 simp only [ZpB,Zn6,ZnI,ZnV,Zn4]
 have va:=ZU a
 rw [ha] at va
 have hpn:2 ^ n ≤ 2 ^ w:=Zo3 (by omega) hn
 rw [Cc.vB_app,ha]
 cases hf:a.getD (n - 1) false
 ·simp only [Zn6, ZnI]
  rw [Xz h1 h2,Zbb,Zps (by omega),Cc.vB_rep]
  simp
 ·simp only [ZnV]
  rw [cpow,Xz h1 h2,cpow,ZiJ va hpn]
  have ho:=Cc.vB_ones (w - n)
  have hpw:2 ^ w = 2 ^ n * 2 ^ (w - n):=by rw [← ZpU]; congr 1; omega
  simp only [Zn4]
  have e:2 ^ w - 2 ^ n = 2 ^ n * vB (List.replicate (w - n) true):=by rw [hpw,← ho,ZpI,Zp8]; omega
  rw [e]
theorem Znn {a:List Bool} {n m:Nat} (ha:a.length = n) (hn1:1 ≤ n) (hn2:n ≤ 16) (hm:m + w ≤ n):XX (n:Int) (vB a) (m:Int) (w:Int) = some (vB ((a.drop m).take w):Int):=by
 unfold XX
 rw [ZaS ha hn1 hn2]
 simp only [Zn4,ZnY,Zo4]
 rw [decide_eq_false (show ¬ (m:Int) < 0 by omega),decide_eq_false (show ¬ (w:Int) < 1 by omega),decide_eq_false (show ¬ (w:Int) > n by omega),YJ (by omega) (by omega),decide_eq_false (show ¬ (m:Int) > (n:Int) - w by omega)]
 simp only [ZpB,Zn6,ZnI]
 rw [ZeL _ (by omega),Zoo,Zop (by omega),cpow,Zpt _ (Zqk _),← Zp4]
 simp only [Zn4]
 rw [Xz h1 h2,Zbb,Zml,Cc.vB_drop]
 rfl
end
theorem Zm4 {a b:List Bool} {n m:Nat} (ha:a.length = n) (hb:b.length = m) (hn:1 ≤ n) (hm:1 ≤ m) (h:n + m ≤ 16):Xr (n:Int) (vB a) (m:Int) (vB b) = some (vB (b ++ a):Int):=by
 unfold Xr
 rw [ZaS ha hn (by omega),ZaS hb hm (by omega)]
 simp only [Zn4,ZnY,Zn6,ZnI,Zo4]
 rw [YJ (a:=(n:Int) + m) (by omega) (by omega),decide_eq_false (show ¬ (n:Int) + m > 16 by omega)]
 simp only [Zn6,ZnI]
 have va:=ZU a; have vb:=ZU b
 rw [ha] at va; rw [hb] at vb
 have hpn:=p16 (w:=n) (by omega)
 have hpm:=p16 (w:=m) (by omega)
 have hm1:vB a * 2 ^ m < 65536 * 65537:=Nat.mul_lt_mul_of_lt_of_le (by omega) (by omega) (by omega)
 rw [Zh4 _ (by omega),Zoo,Zop (by omega),cpow,← Zqj,YJ (by omega) (by omega)]
 simp only [Zn4]
 rw [Cc.vB_app,hb,Zo1 (2 ^ m)]
 generalize vB a * 2 ^ m = q at hm1 ⊢
 rw [YJ (by omega) (by omega)]
 congr 1; omega
theorem Zmi {op:Int} {a b:List Bool} (h1:1 ≤ a.length) (h2:a.length ≤ 16) (hab:a.length = b.length) (ho:3 ≤ op ∧ op ≤ 16):(opB op a b).length = if op ≤ 13 then a.length else 1:=by
 obtain ⟨lg1,lg2⟩:=Zmw a.length (by omega) h1
 unfold opB
 rcases Cc.op_cases ho with rfl | rfl | rfl | rfl | rfl | rfl | rfl | rfl | rfl | rfl | rfl | rfl | rfl | rfl
 all_goals simp only [Int.reduceEq,Int.reduceLE,ZnV,ZnI]
 ·exact (Cc.addB_val hab false).1
 ·exact (Cc.addB_val (by rw [Zog]; exact hab) true).1
 ·exact (Cc.mul_num hab).1
 ·exact (Cc.div_num hab).2.1
 ·exact (Cc.div_num hab).1
 ·rw [Zog,Zo7,← hab,ZpH]
 ·rw [Zog,Zo7,← hab,ZpH]
 ·rw [Zog,Zo7,← hab,ZpH]
 ·rw [Cc.shP_val hab lg1 lg2]; simp
 ·rw [Cc.shP_val hab lg1 lg2]; simp
 ·rw [Cc.shP_val hab lg1 lg2]; simp
 ·rfl
 ·rw [ZcE hab]; rfl
 ·rw [ZcE (by rw [(Zda (l:=a) (by omega)).1,(Zda (l:=b) (by omega)).1]; exact hab)]; rfl
open Cc (litV vB ZU opB bi)
def EV (vs l:List D.Value) (E:List Bool) (p:Str × Int):Prop:=∃ x,fnd l p.1 = some x ∧ x.W = p.2 ∧ 0 ≤ x.N ∧ x.N < 2 ^ x.W.toNat ∧ (varL vs p.1 p.2.toNat).map (litV E) = (List.range p.2.toNat).map (bitI x.N)
theorem Zeu {x:Int} (h:1 ≤ x):((x.toNat:Nat):Int) = x:=ZpV (by omega)
theorem bs1 {bs:List (List Bool)} {n:Nat} (h:bs.map List.length = [n]):∃ x,bs = [x] ∧ x.length = n:=by
 cases bs with
 | nil=>simp at h
 | cons x l=>simp at h; exact ⟨x,by rw [h.2],h.1⟩
theorem bs2 {bs:List (List Bool)} {n m:Nat} (h:bs.map List.length = [n,m]):∃ x y,bs = [x,y] ∧ x.length = n ∧ y.length = m:=by
 cases bs with
 | nil=>simp at h
 | cons x l=>
  simp only [ZnE,List.cons.injEq] at h
  obtain ⟨y,rfl,hy⟩:=bs1 h.2
  exact ⟨x,y,rfl,h.1,hy⟩
theorem bs3 {bs:List (List Bool)} {n m k:Nat} (h:bs.map List.length = [n,m,k]):∃ x y z,bs = [x,y,z] ∧ x.length = n ∧ y.length = m ∧ z.length = k:=by
 cases bs with
 | nil=>simp at h
 | cons x l=>
  simp only [ZnE,List.cons.injEq] at h
  obtain ⟨y,z,rfl,hy,hz⟩:=bs2 h.2
  exact ⟨x,y,z,rfl,h.1,hy,hz⟩
theorem Zkc {t:D.Term} {bs:List (List Bool)} (hb:nodeB t = true) (h0:t.Op ≠ 0) (h22:t.Op ≠ 22) (hl:bs.map List.length = t.Kids.map fun x=>x.W.toNat) :
  X8 t (bs.map fun b=>(vB b:Int)) = some (vB (finB t.Op t.W.toNat t.N.toNat bs):Int) ∧ (finB t.Op t.W.toNat t.N.toNat bs).length = t.W.toNat:=by
 obtain ⟨op,w,m,nm,ks⟩:=t
 obtain ⟨hw16,hsh⟩:=Y3 hb
 have hwn:=Zeu hw16.1
 simp only at h0 h22 hl ⊢
 unfold X8 Zl
 simp only
 rcases hsh with ⟨rfl,-⟩ | ⟨rfl,-⟩ | ⟨ho,-,-,a,rfl,ha,haw⟩ | ⟨h3,h16,-,-,a,b,rfl,ha,hb',hab,h13,h14⟩ | ⟨rfl,-,-,a,b,c,rfl,ha,hb',hc,ha1,hbw,hcw⟩ | ⟨rfl,-,-,a,b,rfl,ha,hb',habw⟩ | ⟨rfl,-,hm0,hm1,a,rfl,ha,haw⟩ | ⟨ho,-,-,a,rfl,ha,haw⟩
 ·exact absurd rfl h0
 ·exact absurd rfl h22
 ·obtain ⟨x, rfl, hx⟩ := bs1 (n := a.W.toNat) hl
  rw [haw] at hx
  have e:(decide (op ≥ 1) && decide (op ≤ 2)) = true:=by simp; omega
  simp only [e,Zn4,ZnV,ZnE,Zoy,geti0]
  unfold finB
  simp only [Zob]
  rcases ho with rfl | rfl
  ·simp only [ZnV]
   have q:=Znj (w:=w.toNat) (by omega) (by omega) hx
   rw [hwn] at q
   rw [q]
   exact ⟨rfl,by simp [hx]⟩
  ·simp only [show ¬ ((2 : Int) = 1) by decide, ZnI, ZnV]
   have q:=Znz (w:=w.toNat) (by omega) (by omega) hx
   rw [hwn] at q
   rw [q]
   refine ⟨rfl,?_⟩
   have ga:=Cc.addB_val (a:=List.replicate w.toNat false) (b:=x.map fun b=>!b) (by simp [hx]) true
   have:opB 4 (List.replicate w.toNat false) x = (Cc.addB (List.replicate w.toNat false) (x.map fun b=>!b) true).1:=by unfold opB; simp
   rw [this,ga.1]; simp
 ·obtain ⟨x, y, rfl, hx, hy⟩ := bs2 (n := a.W.toNat) (m := b.W.toNat) hl
  have hA:=Yf ha
  have e1:(decide (op ≥ 1) && decide (op ≤ 2)) = false:=by simp; omega
  have e2:(decide (op ≥ 3) && decide (op ≤ 16)) = true:=by simp; omega
  rw [e1,e2]
  simp only [Zn4,ZnV,Zn6,ZnI]
  simp only [ZnE,Zoy]
  rw [get0,geti0]
  rw [geti1]
  simp only [Zn4]
  have z1:1 ≤ a.W.toNat:=by omega
  have z2:a.W.toNat ≤ 16:=by omega
  have z3:y.length = a.W.toNat:=by rw [hy,hab]
  have q:=ZlH z1 z2 hx z3 (op:=op) ⟨h3,h16⟩
  rw [Zeu hA.1] at q
  rw [q]
  unfold finB
  simp only [Zob,Zot]
  rw [ZnA (by omega),ZnA (by omega),ZnA (by omega),ZnA (by omega),ZnA (by omega),ZnA (by omega),ZnA (by omega)]
  refine ⟨rfl,?_⟩
  rw [Zmi (by omega) (by omega) (by rw [hx,hy,hab]) ⟨h3,h16⟩]
  split
  ·rename_i h; rw [hx,h13 h]
  ·rename_i h; rw [h14 (by omega)]; rfl
 ·obtain ⟨x, y, z, rfl, hx, hy, hz⟩ := bs3 (n := a.W.toNat) (m := b.W.toNat) (k := c.W.toNat) hl
  rw [ha1] at hx; rw [hbw] at hy; rw [hcw] at hz
  simp only [show (decide ((17:Int) ≥ 1) && decide ((17:Int) ≤ 2)) = false by decide,show (decide ((17:Int) ≥ 3) && decide ((17:Int) ≤ 16)) = false by decide,Zn4,ZnV,Zn6,ZnI,ZnE,Zoy,geti0,geti1,geti2,Zph]
  unfold finB
  simp only [Zob,Zot,show ¬ ((17:Int) = 1) by decide,show ¬ ((17:Int) = 2) by decide,ZnI,ZnV]
  rw [Zk8 _ (hy.trans hz.symm)]
  match x,hx with
  | [true],_=>
   rw [show vB [true] = 1 from rfl,show ((((1:Nat):Int) == 1) = true) from rfl,ZnC rfl]
   exact ⟨rfl,hy⟩
  | [false],_=>
   rw [show vB [false] = 0 from rfl,show ((((0:Nat):Int) == 1) = false) from rfl,ZnA (by decide)]
   exact ⟨rfl,hz⟩
 ·obtain ⟨x, y, rfl, hx, hy⟩ := bs2 (n := a.W.toNat) (m := b.W.toNat) hl
  have hA:=Yf ha
  have hB:=Yf hb'
  simp only [show (decide ((18:Int) ≥ 1) && decide ((18:Int) ≤ 2)) = false by decide,show (decide ((18:Int) ≥ 3) && decide ((18:Int) ≤ 16)) = false by decide,show ((18:Int) == 17) = false by decide,Zn4,ZnV,Zn6,ZnI,ZnE,Zoy,geti0,geti1,get0,get1,Zph]
  have q:=Zm4 hx hy (by omega) (by omega) (by omega)
  rw [Zeu hA.1,Zeu hB.1] at q
  rw [q]
  unfold finB
  simp only [Zob,Zot,show ¬ ((18:Int) = 1) by decide,show ¬ ((18:Int) = 2) by decide,show ¬ ((18:Int) = 17) by decide,ZnI,ZnV]
  exact ⟨rfl,by rw [ZnD,hx,hy]; omega⟩
 ·obtain ⟨x, rfl, hx⟩ := bs1 (n := a.W.toNat) hl
  have hA:=Yf ha
  simp only [show (decide ((19:Int) ≥ 1) && decide ((19:Int) ≤ 2)) = false by decide,show (decide ((19:Int) ≥ 3) && decide ((19:Int) ≤ 16)) = false by decide,show ((19:Int) == 17) = false by decide,show ((19:Int) == 18) = false by decide,Zn4,ZnV,Zn6,ZnI,ZnE,Zoy,geti0,get0,Zph]
  have q:=Znn (w:=w.toNat) (m:=m.toNat) (by omega) (by omega) hx (by omega) (by omega) (by omega)
  rw [Zeu hA.1,hwn,ZpV hm0] at q
  rw [q]
  unfold finB
  simp only [Zob,Zot,show ¬ ((19:Int) = 1) by decide,show ¬ ((19:Int) = 2) by decide,show ¬ ((19:Int) = 17) by decide,show ¬ ((19:Int) = 18) by decide,ZnI,ZnV]
  exact ⟨rfl,by rw [ZnF,Zoe,hx]; omega⟩
 ·obtain ⟨x, rfl, hx⟩ := bs1 (n := a.W.toNat) hl
  have hA:=Yf ha
  rcases ho with rfl | rfl
  ·simp only [show (decide ((20 : Int) ≥ 1) && decide ((20 : Int) ≤ 2)) = false by decide, show (decide ((20 : Int) ≥ 3) && decide ((20 : Int) ≤ 16)) = false by decide, show ((20 : Int) == 17) = false by decide, show ((20 : Int) == 18) = false by decide, show ((20 : Int) == 19) = false by decide, show ((20 : Int) == 21) = false by decide, Zn4, ZnV, Zn6, ZnI, ZnE, Zoy, geti0, get0]
   have q:=Zm7 (w:=w.toNat) (by omega) (by omega) hx (by omega) (by omega)
   rw [Zeu hA.1,hwn] at q
   rw [q]
   unfold finB
   simp only [Zob,Zot,show ¬ ((20:Int) = 1) by decide,show ¬ ((20:Int) = 2) by decide,show ¬ ((20:Int) = 17) by decide,show ¬ ((20:Int) = 18) by decide,show ¬ ((20:Int) = 19) by decide,ZnI,ZnV,hx]
   exact ⟨rfl,by rw [ZnD,Zos,hx]; omega⟩
  ·simp only [show (decide ((21 : Int) ≥ 1) && decide ((21 : Int) ≤ 2)) = false by decide, show (decide ((21 : Int) ≥ 3) && decide ((21 : Int) ≤ 16)) = false by decide, show ((21 : Int) == 17) = false by decide, show ((21 : Int) == 18) = false by decide, show ((21 : Int) == 19) = false by decide, Zph, Zn4, ZnV, Zn6, ZnI, ZnE, Zoy, geti0, get0]
   have q:=Zjv (w:=w.toNat) (by omega) (by omega) hx (by omega) (by omega)
   rw [Zeu hA.1,hwn] at q
   rw [q]
   unfold finB
   simp only [Zob,Zot,show ¬ ((21:Int) = 1) by decide,show ¬ ((21:Int) = 2) by decide,show ¬ ((21:Int) = 17) by decide,show ¬ ((21:Int) = 18) by decide,show ¬ ((21:Int) = 19) by decide,show ¬ ((21:Int) = 20) by decide,ZnI,ZnV,hx]
   exact ⟨rfl,by rw [ZnD,Zos,hx]; omega⟩
theorem ZfQ (vs:List D.Value) (E:List Bool):∀ l:List D.Term,tBs vs E l = l.map (tB vs E)
 | []=>by rw [ZfY]; rfl
 | t :: l=>by rw [Zew,ZfQ vs E l]; rfl
theorem ZlW {t x:D.Term} (h22:t.Op ≠ 22) (hx:x ∈ t.Kids):∀ p ∈ vrs x,p ∈ vrs t:=fun p hp=>by
 rw [XR,ZnA h22]
 have:∀ l:List D.Term,x ∈ l → p ∈ vrss l:=fun l=>by
  induction l with
  | nil=>intro h; cases h
  | cons y l ih=>
   intro hy
   rw [Xj,ZnS]
   rcases Zof.1 hy with rfl | hy
   ·exact .inl hp
   ·exact .inr (ih hy)
 exact this _ hx
theorem ZfN {vs l:List D.Value} {E:List Bool} (hl:l.length ≤ 30):∀ (d:Nat) (t:D.Term),cnt t ≤ d → nodeB t = true → (∀ p ∈ vrs t,EV vs l E p) → ∀ n:Nat,d + 1048590 ≤ n → ZZ n t l = some ((vB (tB vs E t):Int),true) ∧ (tB vs E t).length = t.W.toNat:=by
 intro d
 induction d with
 | zero=>intro t h; have:=Xk t; omega
 | succ d ih=>
  intro t hc hb hv n hn
  obtain ⟨n,rfl⟩ : ∃ j,n = j + 1:=⟨n - 1,by omega⟩
  have hcn:=Xk t
  have hW:=Yf hb
  rw [ZZ,Zlp]
  by_cases o0:t.Op = 0
  ·have c0 : (t.Op == 0) = true := by simpa using o0
   rw [ZnC c0,ZnC o0]
   refine ⟨?_,by simp⟩
   have hword:wordB t.W t.N = true:=by
    obtain ⟨op,w,m,nm,ks⟩:=t
    obtain ⟨-,hsh⟩:=Y3 hb
    simp only at o0
    rcases hsh with ⟨-,-,-,h⟩ | ⟨h,-⟩ | ⟨h,-⟩ | ⟨h,-⟩ | ⟨h,-⟩ | ⟨h,-⟩ | ⟨h,-⟩ | ⟨h,-⟩
    ·exact h
    all_goals omega
   have hb2:=(Zez hW.1 hW.2 t.N).1 hword
   rw [ZeI (by omega) hb2.1 hb2.2]
  ·have c0 : (t.Op == 0) = false := by simpa using o0
   rw [ZnA (by rw [c0]; decide),ZnA o0]
   by_cases o22:t.Op = 22
   ·have c22 : (t.Op == 22) = true := by simpa using o22
    rw [ZnC c22,ZnC o22]
    obtain ⟨x,x1,x2,x3,x4,x5⟩:=hv (t.Name,t.W) (by rw [XR,ZnC o22]; simp)
    simp only at x1 x2 x5
    refine ⟨?_,by simp [Ze1]⟩
    rcases Zj7 (n:=n) (v:=l) (s:=t.Name) (by omega) (by omega) with ⟨f1,-⟩ | ⟨k,y,f1,f2,f3⟩
    ·rw [x1] at f1; cases f1
    ·rw [x1, Option.some.injEq] at f1
     subst f1
     rw [f3]
     have hd:decide ((k:Int) < 0) = false:=decide_eq_false (by omega)
     have hne:(x.W != t.W) = false:=by rw [x2]; simp
     simp only [Zn4,hd,Zn6,ZnI,get?_nat,f2,Zo4,hne]
     rw [x5,← x2,ZeI (by omega) x3 x4]
   ·have c22 : (t.Op == 22) = false := by simpa using o22
    rw [ZnA (by rw [c22]; decide),ZnA o22]
    have hwk:=fun (x:D.Term) (hx:x ∈ t.Kids)=>ih x (by have:=Xn hx; omega) (nodeK hb x hx) (fun p hp=>hv p (ZlW o22 hx p hp)) n (by omega)
    have hkl:t.Kids.length ≤ 3:=by
     obtain ⟨op,w,m,nm,ks⟩:=t
     obtain ⟨-,hsh⟩:=Y3 hb
     rcases hsh with ⟨-,rfl,-⟩ | ⟨-,rfl,-⟩ | ⟨-,-,-,a,rfl,-⟩ | ⟨-,-,-,-,a,b,rfl,-⟩ | ⟨-,-,-,a,b,c,rfl,-⟩ | ⟨-,-,-,a,b,rfl,-⟩ | ⟨-,-,-,-,a,rfl,-⟩ | ⟨-,-,-,a,rfl,-⟩ <;> simp
    have hek:=ZiW (ks:=t.Kids) (f:=fun x=>ZZ n x l) (g:=fun x=>((vB (tB vs E x):Int),true)) (n:=n) (fun x hx=>(hwk x hx).1) (by omega) (by omega)
    rw [hek,ZnC (by simp)]
    simp only [Zn4]
    have q:=Zkc (bs:=tBs vs E t.Kids) hb o0 o22 (by
     rw [ZfQ,ZoG]
     exact ZoS fun x hx=>(hwk x hx).2)
    have e:(t.Kids.map fun x=>((fun x=>((vB (tB vs E x):Int),true)) x).1) = (tBs vs E t.Kids).map fun b=>(vB b:Int):=by rw [ZfQ,ZoG]; rfl
    rw [e,q.1]
    exact ⟨rfl,q.2⟩
instance:FU fuel:=⟨by unfold fuel; omega⟩
theorem Zgu:∀ {l g g':List (Str × Int)},runV g l = some g' → ∀ p:Str × Int,g'.lookup p.1 = some p.2 → g.lookup p.1 = some p.2 ∨ p ∈ l
 | [],g,g',h,p,hp=>by simp only [runV,Option.some.injEq] at h; subst h; exact .inl hp
 | v :: l,g,g',h,p,hp=>by
  simp only [runV,Zod] at h
  obtain ⟨g1,h1,h2⟩:=h
  rcases Zgu h2 p hp with h3 | h3
  ·unfold stp at h1
   split at h1
   ·split at h1
    ·cases h1; exact .inl h3
    ·cases h1
   ·cases h1
    obtain ⟨s,w⟩:=p
    obtain ⟨s',w'⟩:=v
    simp only [List.lookup] at h3
    split at h3
    ·rename_i e
     have e:s = s':=by simpa using e
     cases h3
     exact .inr (by rw [e]; simp)
    ·exact .inl h3
  ·exact .inr (ZnZ _ h3)
def zv (v:D.Value):D.Value:=⟨v.Name,v.W,0⟩
structure VL (t:D.Term) (L:List D.Value):Prop where
 eq:L.map zv = vtab (vrs t).reverse
 nm:L.Pairwise fun x y=>x.Name ≠ y.Name
 mem:∀ v ∈ L,(v.Name,v.W) ∈ vrs t
 all:TV L t
theorem ZmD {a b:Str} (h:Str.ltb a b = true):a ≠ b:=fun e=>by
 subst e
 have:=Zbx a
 rw [this] at h; cases h
theorem ZhN {t:D.Term} (h:termB t = true) (hs:msz t ≤ 1048576):∃ L,ZA fuel t = some L ∧ VL t L:=by
 have hb:=h
 unfold termB at hb
 simp only [ZnB,ZnO] at hb
 obtain ⟨⟨hc,hn⟩,hr⟩:=hb
 have hv:=Zey t
 obtain ⟨l',b,e,hT,hF⟩:=ZeZ fuel t [] [] hs ⟨List.Pairwise.nil,rfl,fun v hv=>(by cases hv),fun s w h=>(by simp at h)⟩ (by simp; omega) (by unfold fuel; omega)
 cases b with
 | false=>rw [hF rfl] at hr; cases hr
 | true=>
  obtain ⟨g',hg,hR⟩:=hT rfl
  obtain ⟨r1,r2,r3,r4⟩:=hR
  have hlk:=(Zf4 hg).2
  have hmem:∀ s w,g'.lookup s = some w → (s,w) ∈ vrs t:=fun s w h=>by
   rcases Zgu hg (s,w) h with h | h
   ·simp at h
   ·exact h
  have hrev:∀ s w,(vrs t).reverse.lookup s = some w ↔ g'.lookup s = some w:=fun s w=>by
   constructor
   ·intro h
    exact hlk (s,w) (ZqM.1 (Zek h))
   ·intro h
    obtain ⟨z,hz⟩:=Zfv (ZqM.2 (hmem s w h))
    have:=hlk (s,z) (ZqM.1 (Zek hz))
    rw [h] at this
    rw [hz,Option.some.inj this]
  refine ⟨l',?_,?_,?_,?_,?_⟩
  ·unfold ZA
   rw [Zck hs,h]
   simp only [Zn4,ZnY,Zn6,ZnI]
   rw [e]; rfl
  ·refine ZkB (ZqH.2 r1) (ZbB _) fun v => ?_
   rw [ZbE,ZoB]
   constructor
   ·rintro ⟨x, hx, rfl⟩
    exact ⟨(hrev _ _).2 (r3 x hx),rfl⟩
   ·rintro ⟨h1, h2⟩
    have h1':=(hrev _ _).1 h1
    obtain ⟨x,hx,hxn⟩:=r4 _ _ h1'
    have:=r3 x hx
    rw [hxn,h1'] at this
    refine ⟨x,hx,?_⟩
    cases v
    simp only [zv] at *
    rw [hxn,← Option.some.inj this,h2]
  ·exact r1.imp fun h=>ZmD h
  ·exact fun v hv=>hmem _ _ (r3 v hv)
  ·intro p hp
   have:=hlk p hp
   obtain ⟨x,hx,hxn⟩:=r4 _ _ this
   have h2:=r3 x hx
   rw [hxn,this] at h2
   exact ⟨x,hx,hxn,(Option.some.inj h2).symm⟩
def bitsV (l:List D.Value) (a:Int):Int:=(l.map (·.W)).foldl (· + ·) a
theorem Zbt (v:D.Value) (l:List D.Value) (a:Int):bitsV (v :: l) a = bitsV l (a + v.W):=rfl
theorem Zjx {L:List D.Value} (hl:L.length ≤ 1000) (hw:∀ v ∈ L,1 ≤ v.W ∧ v.W ≤ 16):XY fuel L = some (bitsV L 0):=by
  unfold XY
  obtain ⟨r,g1,g2⟩:=Yk (l:=L) (n:=fuel) (σ:=Int) (ρ:=Int) (B:=fun (s1:Int × Int)=>
    if (decide (s1.2 < (len L))) then
     (get? L s1.2).bind fun x1=>
     some (.inl ((w64 (s1.1 + x1.W)),(w64 (s1.2 + 1))))
    else
     some (.inr (s1.1))) (fun k a=>(a,(k:Int))) (fun ys a=>bitsV ys a = bitsV L 0 ∧ 0 ≤ a ∧ a ≤ 16 * (L.length - ys.length:Int) ∧ ∀ y ∈ ys,y ∈ L) (fun r=>r = bitsV L 0)
    (fun k x xs a hk hx hlen ⟨h1,h2,h3,h4⟩=>by
      have hd:decide ((k:Int) < len L) = true:=by rw [Za]; simp; omega
      have hxw:=hw x (h4 x (by simp))
      simp only [ZnL] at hlen h3
      simp only [hd,ZnV,get?_nat,hx,Zn4]
      exact .inl ⟨a + x.W,by rw [Ze (by omega) (by omega),Ze (by omega) (by omega)]; rfl,h1,by omega,by omega,fun y hy=>h4 y (by simp [hy])⟩)
    (fun a ⟨h1,_⟩=>by
      have hd:decide ((L.length:Int) < len L) = false:=by rw [Za]; simp
      simp only [hd,Zn6,ZnI]
      exact ⟨_,rfl,h1⟩) (a:=0) ⟨rfl,by omega,by omega,fun y h=>h⟩ (lt_fuel (by omega))
  rw [show ((0:Nat):Int) = 0 from rfl] at g1
  rw [g1,g2]; rfl
theorem Zj1 {a:Int} {w:Nat} (hw:w ≤ 16) (h0:0 ≤ a) (h1:a ≤ 100000):iterN (fun (s2:Int × Int × (List Int))=>
     if (decide (s2.2.1 ≥ 0)) then
      (set? s2.2.2 s2.2.1 (w64 (2 + s2.1))).bind fun x6=>
      some (.inl ((w64 (s2.1 + 1)),(w64 (s2.2.1 - 1)),x6))
     else
      some (.inr (s2.1,s2.2.2))
    ) fuel (a,(w:Int) - 1,List.replicate w 0) = some (a + w,(List.range w).map fun k:Nat=>1 + a + (w:Int) - (k:Int)):=by
  rw [Xv (I:=fun k t=>t = (a + (k:Int),(w:Int) - 1 - (k:Int),List.replicate (w - k) 0 ++ (List.range k).map fun i:Nat=>1 + a + (k:Int) - (i:Int))) (m:=w) (r:=(a + (w:Int),(List.range w).map fun k:Nat=>1 + a + (w:Int) - (k:Int))) (fun k t hk ht=>?_) (fun t ht=>?_) w 0 _ (by omega) (by simp) fuel (lt_fuel (by omega))]
  all_goals subst ht
  · refine ⟨_, ?_, rfl⟩
    simp only
    rw [ZnC (by simp; omega),show (w:Int) - 1 - (k:Int) = ((w - 1 - k:Nat):Int) by omega,set?_nat (by simp; omega),Ze (x:=2 + (a + (k:Int))) (by omega) (by omega)]
    simp only [Zn4]
    rw [Ze (by omega) (by omega),Ze (by omega) (by omega)]
    have e:(List.replicate (w - k) (0:Int) ++ (List.range k).map fun i:Nat=>1 + a + (k:Int) - (i:Int)).set (w - 1 - k) (2 + (a + (k:Int))) = List.replicate (w - (k + 1)) 0 ++ (List.range (k + 1)).map fun i:Nat=>1 + a + ((k + 1:Nat):Int) - (i:Int):=by
      rw [List.set_append_left _ _ (by simp; omega),show w - k = (w - (k + 1)) + 1 by omega,List.replicate_succ',ZoL _ _ (by simp; omega),Zos,show w - 1 - k - (w - (k + 1)) = 0 by omega,Zpp,Zoh,Zox,List.range_succ_eq_map,ZnE,ZoG]
      congr 2
      · omega
      · apply ZoS
        intro i _
        simp only [Function.comp]
        omega
    rw [e]
    simp only [Option.some.injEq,Sum.inl.injEq,Prod.mk.injEq]
    exact ⟨by omega,by omega,trivial⟩
  · simp only
    rw [ZnA (by simp; omega),ZoR]
    rfl
theorem ZiI {x:D.Value} {ys:List D.Value}:∀ {pre:List D.Value} {a:Int},(∀ v ∈ pre,v.Name ≠ x.Name) → atV (pre ++ x :: ys) a x.Name = bitsV pre a + x.W
 | [],a,_=>by
  show (if Str.eqb x.Name x.Name = true then a + x.W else _) = _
  rw [ZnC (ZbM _)]; rfl
 | v :: pre,a,h=>by
  show (if Str.eqb v.Name x.Name = true then a + v.W else atV (pre ++ x :: ys) (a + v.W) x.Name) = _
  rw [ZnA (by rw [Zbv]; simpa using h v (by simp))]
  exact ZiI fun u hu=>h u (by simp [hu])
theorem ZkC {L:List D.Value} (hl:L.length ≤ 1000) (hw:∀ v ∈ L,1 ≤ v.W ∧ v.W ≤ 16) (hn:∀ v ∈ L,v.Name.bytes.length ≤ 1000) (hp:L.Pairwise fun x y=>x.Name ≠ y.Name):∃ mp,iterN (fun (s1:Int × Int × (List (Str × List Int)))=>
   if (decide (s1.2.1 < (len (L.map zv)))) then
    (get? (L.map zv) s1.2.1).bind fun x4=>
    (mk? x4.W (0:Int)).bind fun x5 =>
    (iterN (fun (s2 : Int × Int × (List Int)) =>
     if (decide (s2.2.1 ≥ 0)) then
      (set? s2.2.2 s2.2.1 (w64 (2 + s2.1))).bind fun x6=>
      some (.inl ((w64 (s2.1 + 1)),(w64 (s2.2.1 - 1)),x6))
     else
      some (.inr (s2.1,s2.2.2))
    ) fuel (s1.1,(w64 (x4.W - 1)),x5)).bind fun (rl2:Int × (List Int))=>
    (mput? fitS s1.2.2 x4.Name rl2.2).bind fun x7=>
    some (.inl (rl2.1,(w64 (s1.2.1 + 1)),x7))
   else
    some (.inr (s1.1,s1.2.2))
  ) fuel (0,0,([]:List (Str × List Int))) = some (bitsV L 0,mp) ∧ MapOk L mp:=by
  obtain ⟨r,g1,mp,rfl,g2⟩:=Yk (l:=L) (n:=fuel) (σ:=Int × List (Str × List Int)) (ρ:=Int × List (Str × List Int)) (B:=fun (s1:Int × Int × (List (Str × List Int)))=>
   if (decide (s1.2.1 < (len (L.map zv)))) then
    (get? (L.map zv) s1.2.1).bind fun x4=>
    (mk? x4.W (0:Int)).bind fun x5 =>
    (iterN (fun (s2 : Int × Int × (List Int)) =>
     if (decide (s2.2.1 ≥ 0)) then
      (set? s2.2.2 s2.2.1 (w64 (2 + s2.1))).bind fun x6=>
      some (.inl ((w64 (s2.1 + 1)),(w64 (s2.2.1 - 1)),x6))
     else
      some (.inr (s2.1,s2.2.2))
    ) fuel (s1.1,(w64 (x4.W - 1)),x5)).bind fun (rl2:Int × (List Int))=>
    (mput? fitS s1.2.2 x4.Name rl2.2).bind fun x7=>
    some (.inl (rl2.1,(w64 (s1.2.1 + 1)),x7))
   else
    some (.inr (s1.1,s1.2.2))) (fun k a=>(a.1,(k:Int),a.2))
    (fun ys a=>∃ pre,pre ++ ys = L ∧ a.1 = bitsV pre 0 ∧ 0 ≤ a.1 ∧ a.1 ≤ 16 * pre.length ∧ a.2.length = pre.length ∧ ∀ v ∈ pre,a.2.lookup v.Name = some (varL L v.Name v.W.toNat))
    (fun r=>∃ mp,r = (bitsV L 0,mp) ∧ MapOk L mp)
    (fun k x xs a hk hx hlen ⟨pre,h1,h2,h3,h4,h5,h6⟩=>by
      have hxL:x ∈ L:=by rw [← h1]; simp
      have hxw:=hw x hxL
      have hpl:pre.length ≤ L.length:=by rw [← h1]; simp
      have hd:decide ((k:Int) < len (L.map zv)) = true:=by rw [Za]; simp; omega
      have eW:((x.W.toNat:Nat):Int) = x.W:=by omega
      have hz:(L.map zv)[k]? = some (zv x):=by rw [ZnW,hx]; rfl
      have hne:∀ v ∈ pre,v.Name ≠ x.Name:=fun v hv=>by
        rw [← h1] at hp
        exact (ZpA.1 hp).2.2 v hv x (by simp)
      have hat:atV L 1 x.Name = 1 + a.1 + x.W:=by
        rw [← h1,ZiI hne,h2]
        have:=Zd2 (pre.map (·.W)) 1 0
        unfold bitsV
        rw [show (1:Int) + 0 = 1 from rfl] at this
        rw [this]
      simp only [hd,ZnV,get?_nat,hz,Zn4]
      rw [show (zv x).W = x.W from rfl,show (zv x).Name = x.Name from rfl,show mk? x.W (0:Int) = some (List.replicate x.W.toNat 0) from by unfold mk?; rw [ZnC ⟨by omega,by unfold room; omega⟩]]
      simp only [Zn4]
      rw [Ze (x:=x.W - 1) (by omega) (by omega)]
      have:=Zj1 (a:=a.1) (w:=x.W.toNat) (by omega) h3 (by omega)
      rw [eW] at this
      rw [this]
      simp only [Zn4]
      rw [show mput? fitS a.2 x.Name ((List.range x.W.toNat).map fun k:Nat=>1 + a.1 + x.W - (k:Int)) = some ((x.Name,varL L x.Name x.W.toNat) :: a.2) from by
        unfold mput?
        rw [ZnC ⟨by have:=hn x hxL; unfold fitS; simp; omega,by unfold room; omega⟩]
        unfold varL; rw [hat]]
      simp only [Zn4]
      rw [Ze (by omega) (by omega)]
      refine .inl ⟨(a.1 + x.W,(x.Name,varL L x.Name x.W.toNat) :: a.2),rfl,pre ++ [x],by rw [Zoh]; exact h1,?_,by show 0 ≤ a.1 + x.W; omega,by simp; omega,by simp [h5],fun v hv=>?_⟩
      · show a.1 + x.W = bitsV (pre ++ [x]) 0
        unfold bitsV
        rw [Zo2,Zor,h2]; rfl
      · rcases ZnS.1 hv with hv | hv
        · have hn := hne v hv
          rw [Zoi,show (v.Name == x.Name) = false by simpa using hn]
          exact h6 v hv
        · rw [ZnX] at hv
          subst hv
          rw [Zoi]; simp)
    (fun a ⟨pre,h1,h2,h3,h4,h5,h6⟩=>by
      have hd:decide ((L.length:Int) < len (L.map zv)) = false:=by rw [Za]; simp
      simp only [hd,Zn6,ZnI]
      rw [Zoz] at h1
      subst h1
      exact ⟨_,rfl,a.2,by rw [h2],fun v hv=>⟨hn v hv,by rw [h6 v hv]; rfl⟩⟩) (a:=(0,[])) ⟨[],rfl,rfl,by omega,by simp,rfl,fun v hv=>by cases hv⟩ (lt_fuel (by omega))
  rw [show ((0:Nat):Int) = 0 from rfl] at g1
  exact ⟨mp,g1,g2⟩
theorem Zns:∀ n:Nat,(∀ t:D.Term,cnt t < n → nodeB t = true → ∀ p ∈ vrs t,1 ≤ p.2 ∧ p.2 ≤ 16 ∧ p.1.bytes.length ≤ 8):=by
 intro n
 induction n with
 | zero=>intro t h; omega
 | succ n ih=>
  intro t h hb p hp
  have hc:=Xk t
  rw [XR] at hp
  by_cases h22:t.Op = 22
  ·rw [ZnC h22, ZnX] at hp
   subst hp
   have:=Yf hb
   exact ⟨this.1,this.2,(Zgk hb h22).1⟩
  ·rw [ZnA h22] at hp
   have:∀ l:List D.Term,(∀ x ∈ l,x ∈ t.Kids) → p ∈ vrss l → ∃ x ∈ t.Kids,p ∈ vrs x:=fun l=>by
    induction l with
    | nil=>intro _ h; rw [ZaD] at h; cases h
    | cons y l ihl=>
     intro hm h
     rw [Xj,ZnS] at h
     rcases h with h | h
     ·exact ⟨y,hm y (by simp),h⟩
     ·exact ihl (fun z hz=>hm z (by simp [hz])) h
   obtain ⟨x,hx,hpx⟩:=this t.Kids (fun _ h=>h) hp
   exact ih x (by have:=Xn hx; omega) (nodeK hb x hx) p hpx
def c0:D.Circuit:=⟨0,[]⟩
def circT (t:D.Term):D.Circuit × List Int × Bool:=
 if termB t = true then
  let L:=(ZA fuel t).getD []
  let r:=nP L t (⟨bitsV L 0,[]⟩,false)
  if bitsV L 0 > 30 ∨ r.2.2 = true then (c0,[],false) else (r.2.1,r.1,true)
 else (c0,[],false)
theorem ZcA {b:Int} (h0:0 ≤ b) (h1:b ≤ 30):CircP ⟨b,[]⟩:=⟨h0,h1,by simp,fun k g hg=>by simp at hg⟩
section
variable {t:D.Term} (h:termB t = true) (hs:msz t ≤ 1048576)
include h hs
theorem ZaC:∃ L,ZA fuel t = some L ∧ VL t L ∧ nodeB t = true ∧ cnt t ≤ 240 ∧ (∀ v ∈ L,1 ≤ v.W ∧ v.W ≤ 16) ∧ (∀ v ∈ L,v.Name.bytes.length ≤ 1000) ∧ L.length ≤ 1000 ∧ 0 ≤ bitsV L 0:=by
 obtain ⟨L,e,hL⟩:=ZhN h hs
 have hb:=h
 unfold termB at hb
 simp only [ZnB,ZnO] at hb
 obtain ⟨⟨hc,hn⟩,-⟩:=hb
 have hw:∀ v ∈ L,1 ≤ v.W ∧ v.W ≤ 16 ∧ v.Name.bytes.length ≤ 8:=fun v hv=>Zns _ t (Nat.lt_succ_self _) hn _ (hL.mem v hv)
 have hlen:L.length ≤ 1000:=by
  have h1:=congrArg List.length hL.eq
  rw [Zog] at h1
  have h2:=ZcO (vrs t).reverse
  rw [Zpi] at h2
  have:=Zey t
  omega
 have hb0:=Zic (l:=L) (a:=0) fun v hv=>(hw v hv).1
 exact ⟨L,e,hL,hn,hc,fun v hv=>⟨(hw v hv).1,(hw v hv).2.1⟩,fun v hv=>by have:=(hw v hv).2.2; omega,hlen,by unfold bitsV; omega⟩
end
theorem ZhE {t:D.Term} (hs:msz t ≤ 1048576):Xx fuel t = some (circT t):=by
 unfold Xx circT
 rw [Zce hs]
 simp only [Zn4]
 by_cases h:termB t = true
 ·obtain ⟨L, e, hL, hn, hc, hw, hnm, hlen, hb0⟩ := ZaC h hs
  rw [h]
  simp only [ZnY,Zn6,ZnI,Zo4,ZnV]
  rw [Zj5 fuel t (by unfold fuel; omega) hn]
  simp only [Zn4,e,Zol]
  have hv:VF L (⟨bitsV L 0,[]⟩ : D.Circuit):=⟨fun v hv=>(hw v hv).1,rfl⟩
  cases hwd:wideB t
  ·simp only [Zn6, ZnI]
   rw [Zfg h hs,← hL.eq]
   simp only [Zn4]
   obtain ⟨mp,hl1,hmp⟩:=ZkC hlen hw hnm hL.nm
   rw [hl1]
   simp only [Zn4]
   by_cases hb:bitsV L 0 > 30
   ·rw [ZnC (by simpa using hb),ZnC (.inl hb)]; rfl
   ·rw [ZnA (by simpa using hb)]
    have hC:=ZcA hb0 (by omega)
    obtain ⟨m0,e0,r0⟩:=Cc.impl_new (fuel:=fuel) hC
    rw [e0]
    simp only [Zn4]
    obtain ⟨m1,e1,r1⟩:=Zk1 hL.nm hmp fuel t (⟨bitsV L 0,[]⟩,false) m0 (by unfold fuel; omega) hn hwd hL.all hC hv r0
    rw [e1]
    simp only [Zn4]
    have g:=Zci hL.nm _ t (⟨bitsV L 0,[]⟩,false) (ZnK _) hn hL.all hC hv
    generalize nP L t (⟨bitsV L 0,[]⟩,false) = r at g r1 ⊢
    have hw16:=Yf hn
    have hl:=g.len
    rw [r1.full]
    cases hf:r.2.2
    ·rw [ZnA (by decide), ZnA (by rintro (h | h); exact hb h; cases h)]
     rw [show Zc r.1 = some r.1 from by unfold Zc; rw [Zix (by simp; omega)]; rfl]
     simp only [Zn4]
     rw [r1.c]
    ·rw [ZnC rfl,ZnC (.inr rfl)]; rfl
  ·simp only [ZnV]
   by_cases hb:bitsV L 0 > 30
   ·rw [ZnC (.inl hb)]; rfl
   ·have hC := ZcA hb0 (by omega)
    rw [ZnC (.inr (ZjC hL.nm _ t (⟨bitsV L 0,[]⟩,false) (ZnK _) hn hwd hL.all hC hv))]; rfl
 ·have h' : termB t = false := by simpa using h
  rw [h']
  simp only [Zp6,ZnV,Zn4,Zq9,Zn6,ZnI]
  rfl
end Go.Proofs.YthlolmkdppfioaaGreat
end
section
namespace Go.Proofs.YthlolmkdppfioaaGreat.Cc
open Go.GL
set_option linter.unusedSimpArgs false
variable {fuel:Nat} [FU fuel]
theorem j0:w64 0 = 0:=by decide
theorem j1:w64 1 = 1:=by decide
theorem j2:w64 2 = 2:=by decide
theorem j3:w64 3 = 3:=by decide
theorem cmpv {x y:Int} (hx:litN 391 x = true) (hy:litN 391 y = true) (h:iab x < iab y):Yn x y = some (-1):=by
 unfold Yn
 obtain ⟨fx,fx'⟩:=XH hx (ZoD _)
 obtain ⟨fy,fy'⟩:=XH hy (ZoD _)
 rw [ZX fx fx',ZX fy fy']
 simp [YB,YS,h]
theorem cmpv' {x y:Int} (hx:litN 391 x = true) (hy:litN 391 y = true) (h:iab y < iab x):Yn x y = some 1:=by
 unfold Yn
 obtain ⟨fx,fx'⟩:=XH hx (ZoD _)
 obtain ⟨fy,fy'⟩:=XH hy (ZoD _)
 rw [ZX fx fx',ZX fy fy']
 have h2:¬ iab x < iab y:=by omega
 simp [YB,YS,h,h2]
theorem insC2 (n:Nat) {x y:Int} (hx:litN 391 x = true) (hy:litN 391 y = true) (h:iab y < iab x):Zg (n + 6) [x,y] 0 2 = some [y,x]:=by
 unfold Zg
 have e1:=cmpv hy hx h
 simp [iterN,get?,set?,e1,j0,j1,j2]
theorem insC3 (n:Nat) {x y z:Int} (hx:litN 391 x = true) (hy:litN 391 y = true) (hz:litN 391 z = true) (h:iab y < iab z) (h2:iab z < iab x):Zg (n + 6) [x,y,z] 0 3 = some [y,z,x]:=by
 unfold Zg
 have e1:=cmpv hy hx (by omega)
 have e2:=cmpv hz hx h2
 have e3:=cmpv' hz hy h
 simp [iterN,get?,set?,e1,e2,e3,j0,j1,j2,j3]
theorem sortC2 (n:Nat) {x y:Int} (hx:litN 391 x = true) (hy:litN 391 y = true) (h:iab y < iab x):Zf (n + 6) [x,y] = some [y,x]:=by
 unfold Zf
 have hl:len [x,y] = 2:=rfl
 have hb:XA (IntKind.u64.wrap 2) = some 2:=by decide
 rw [hl,hb]
 simp only [Zn4]
 unfold Zp
 simp [iterN,insC2 n hx hy h,j2]
theorem sortC3 (n:Nat) {x y z:Int} (hx:litN 391 x = true) (hy:litN 391 y = true) (hz:litN 391 z = true) (h:iab y < iab z) (h2:iab z < iab x):Zf (n + 6) [x,y,z] = some [y,z,x]:=by
 unfold Zf
 have hl:len [x,y,z] = 3:=rfl
 have hb:XA (IntKind.u64.wrap 3) = some 2:=by decide
 rw [hl,hb]
 simp only [Zn4]
 unfold Zp
 simp [iterN,insC3 n hx hy hz h h2,j3]
theorem ZhP {x y:Int} (h:iab x < iab y):¬ x = y ∧ ¬ y = x ∧ ¬ y = -x ∧ ¬ x = -y:=by
 unfold iab at h
 split at h <;> split at h <;> omega
theorem compC2 (n:Nat) {x y:Int} (h:iab y < iab x):Zw (n + 6) [y,x] = some [y,x]:=by
 unfold Zw
 have hl:len [y,x] = 2:=rfl
 have:=ZhP h
 rw [hl]
 simp [iterN,get?,this,j1,j2,j0]
theorem compC3 (n:Nat) {x y z:Int} (h:iab y < iab z) (h2:iab z < iab x):Zw (n + 6) [y,z,x] = some [y,z,x]:=by
 unfold Zw
 have hl:len [y,z,x] = 3:=rfl
 have t1:=ZhP h
 have t2:=ZhP h2
 rw [hl]
 simp [iterN,get?,t1,t2,j1,j2,j0,j3]
theorem lit400 {x:Int} (h:litN 391 x = true):litN 400 x = true:=litN_mono h (by decide)
theorem clauseOk2 {x y:Int} (hx:litN 391 x = true) (hy:litN 391 y = true) (h:iab y < iab x):Yg fuel [y,x] 400 = some true:=by
 unfold Yg
 rw [ZaW (by decide) (by decide) (by simp)]
 obtain ⟨fx,fx'⟩:=XH hx (ZoD _)
 obtain ⟨fy,fy'⟩:=XH hy (ZoD _)
 have v1:=ZX fx fx'
 have v2:=ZX fy fy'
 have ha:[y,x].all (litN 400) = true:=by simp [lit400 hx,lit400 hy]
 have hl:len [y,x] = 2:=rfl
 obtain ⟨n,hf⟩ : ∃ n,fuel = n + 6:=⟨fuel - 6,by have:=FU.le (n:=fuel); omega⟩
 have hn:¬ iab x ≤ iab y:=by omega
 rw [ha,hl,hf]
 simp [iterN,get?,v1,v2,hn,j0,j1,j2]
theorem clauseOk3 {x y z:Int} (hx:litN 391 x = true) (hy:litN 391 y = true) (hz:litN 391 z = true) (h:iab y < iab z) (h2:iab z < iab x):Yg fuel [y,z,x] 400 = some true:=by
 unfold Yg
 rw [ZaW (by decide) (by decide) (by simp)]
 obtain ⟨fx,fx'⟩:=XH hx (ZoD _)
 obtain ⟨fy,fy'⟩:=XH hy (ZoD _)
 obtain ⟨fz,fz'⟩:=XH hz (ZoD _)
 have v1:=ZX fx fx'
 have v2:=ZX fy fy'
 have v3:=ZX fz fz'
 have ha:[y,z,x].all (litN 400) = true:=by simp [lit400 hx,lit400 hy,lit400 hz]
 have hl:len [y,z,x] = 3:=rfl
 obtain ⟨n,hf⟩ : ∃ n,fuel = n + 6:=⟨fuel - 6,by have:=FU.le (n:=fuel); omega⟩
 have hn:¬ iab z ≤ iab y:=by omega
 have hn2:¬ iab x ≤ iab z:=by omega
 rw [ha,hl,hf]
 simp [iterN,get?,v1,v2,v3,hn,hn2,j0,j1,j2,j3]
theorem mkI2 (n:Nat) [FU (n + 6)] {x y:Int} (hx:litN 391 x = true) (hy:litN 391 y = true) (h:iab y < iab x):ZJ (n + 6) [x,y] = some ([y,x],true):=by
 unfold ZJ
 have ha:[x,y].all (litN 400) = true:=by simp [lit400 hx,lit400 hy]
 have hc:Zc [x,y] = some [x,y]:=rfl
 rw [ZaW (by decide) (by decide) (by simp),ha,hc]
 simp only [Zn4,ZnY,Zn6,ZnI]
 have h1:Zf (n + 6) [x,y] = _:=sortC2 n hx hy h
 have h2:Zw (n + 6) [y,x] = _:=compC2 n h
 rw [h1]
 simp only [Zn4]
 rw [h2]
 simp only [Zn4]
 rw [clauseOk2 (fuel:=n + 6) hx hy h]
 rfl
theorem mkI3 (n:Nat) [FU (n + 6)] {x y z:Int} (hx:litN 391 x = true) (hy:litN 391 y = true) (hz:litN 391 z = true) (h:iab y < iab z) (h2:iab z < iab x):ZJ (n + 6) [x,y,z] = some ([y,z,x],true):=by
 unfold ZJ
 have ha:[x,y,z].all (litN 400) = true:=by simp [lit400 hx,lit400 hy,lit400 hz]
 have hc:Zc [x,y,z] = some [x,y,z]:=rfl
 rw [ZaW (by decide) (by decide) (by simp),ha,hc]
 simp only [Zn4,ZnY,Zn6,ZnI]
 have e1:Zf (n + 6) [x,y,z] = _:=sortC3 n hx hy hz h h2
 have e2:Zw (n + 6) [y,z,x] = _:=compC3 n h h2
 rw [e1]
 simp only [Zn4]
 rw [e2]
 simp only [Zn4]
 rw [clauseOk3 (fuel:=n + 6) hx hy hz h h2]
 rfl
theorem inner3 (n:Nat) {MC:List Int → Option (List Int × Bool)} {l1 l2 l3 r1 r2 r3:List Int} (h1:MC l1 = some (r1,true)) (h2:MC l2 = some (r2,true)) (h3:MC l3 = some (r3,true)) {out:List (List Int)} (hl:out.length ≤ 100000) :
  iterN (fun (s2:Int × (List (List Int)))=>
   if (decide (s2.1 < (len ([l1,l2,l3]:List (List Int))))) then
    (get? ([l1,l2,l3]:List (List Int)) s2.1).bind fun x4=>
    (MC x4).bind fun x5=>
    (app? s2.2 ([x5.1]:List (List Int))).bind fun x6=>
    some (.inl ((w64 (s2.1 + 1)),x6))
   else
    some (.inr (s2.2))) (n + 6) (0,out) = some (out ++ [r1,r2,r3]):=by
 have hc:len ([l1,l2,l3]:List (List Int)) = 3:=rfl
 have ha:∀ (l:List (List Int)) (q:List Int),l.length ≤ 100003 → app? l [q] = some (l ++ [q]):=fun l q h=>by unfold app?; rw [ZnC (by simp; unfold room; omega)]
 have a1:=ha out r1 (by omega)
 have a2:=ha (out ++ [r1]) r2 (by simp; omega)
 have a3:=ha (out ++ [r1] ++ [r2]) r3 (by simp; omega)
 simp only [Zoh,Zox] at a2 a3
 rw [hc]
 simp [iterN,get?,h1,h2,h3,a1,a2,a3,j0,j1,j2,j3]
def stepF (c:D.Circuit) (i:Nat) (g:D.Gate):List (List Int):=[[g.A,-(c.Inputs + 2 + i)],[g.B,-(c.Inputs + 2 + i)],[-g.A,-g.B,c.Inputs + 2 + i]]
def accF (c:D.Circuit):Nat → List (List Int)
 | 0=>[[1]]
 | k + 1=>accF c k ++ stepF c k (c.Gates.getD k ⟨0,0⟩)
theorem accF_len (c:D.Circuit) (k:Nat):(accF c k).length = 1 + 3 * k:=by
 induction k with
 | zero=>rfl
 | succ k ih=>simp only [accF,ZnD,ih,stepF,ZnL,Zom]; omega
structure GateOk (c:D.Circuit) (k:Nat) (g:D.Gate):Prop where
 a:litN 391 g.A = true
 b:litN 391 g.B = true
 na:litN 391 (-g.A) = true
 nb:litN 391 (-g.B) = true
 l:litN 391 (c.Inputs + 2 + k) = true
 nl:litN 391 (-(c.Inputs + 2 + k)) = true
 ab:iab (-g.A) < iab (-g.B)
 bl:iab (-g.B) < iab (c.Inputs + 2 + k)
 al':iab g.A < iab (-(c.Inputs + 2 + k))
 bl':iab g.B < iab (-(c.Inputs + 2 + k))
theorem gate_ok {c:D.Circuit} (hc:CircP c) {k:Nat} {g:D.Gate} (hg:c.Gates[k]? = some g):GateOk c k g:=by
 have h:=Zbd.1 (hc.gate k g hg)
 obtain ⟨h1,h2,h3,h4,-⟩:=h
 have hk:=(Zn9.1 hg).1
 have hlt:(c.Gates.take k).length = k:=by simp; omega
 rw [hlt] at h1 h2
 have hl:=hc.lines1
 have hi:=hc.i0
 unfold lines at hl
 have e1:iab (c.Inputs + 2 + k) = c.Inputs + 2 + k:=by unfold iab; rw [ZnA (by omega)]
 have b1:iab g.A ≤ c.Inputs + 1 + k:=by unfold iab; split <;> omega
 have b2:iab g.B ≤ c.Inputs + 1 + k:=by unfold iab; split <;> omega
 refine ⟨litN_iff.2 (by omega),litN_iff.2 (by omega),?_,?_,litN_iff.2 (by omega),?_,?_,?_,?_,?_⟩
 ·rw [ZB]; exact litN_iff.2 (by omega)
 ·rw [ZB]; exact litN_iff.2 (by omega)
 ·rw [ZB]; exact litN_iff.2 (by omega)
 ·rw [iab_neg,iab_neg]; exact h4
 ·rw [iab_neg]; omega
 ·rw [iab_neg]; omega
 ·rw [iab_neg]; omega
def formP (c:D.Circuit) (lit:Int):D.Formula × Bool:=if circB2 c && litN (lines c) lit then (⟨lines c,accF c c.Gates.length ++ [[lit]]⟩,true) else (⟨0,[]⟩,false)
theorem Zcd {c:D.Circuit} {k:Nat} (hk:k < c.Gates.length):c.Gates[k]? = some (c.Gates.getD k ⟨0,0⟩):=by
 rw [Zn8,Zn5 hk]; rfl
theorem impl_FormulaOf_eq {c:D.Circuit} {lit:Int} (hc:Zb5 c) (hg:c.Gates.length ≤ 1048576):Xo fuel c lit = some (formP c lit):=by
 obtain ⟨N,rfl⟩ : ∃ n,fuel = n + 6:=⟨fuel - 6,by have:=FU.le (n:=fuel); omega⟩
 unfold Xo formP
 rw [Zji hc hg]
 simp only [Zn4]
 cases h1:circB2 c with
 | false=>simp
 | true=>
  have hp:=circP_iff.1 h1
  have hl0:=hp.lines0
  have hl1:=hp.lines1
  simp only [ZnY,Zn6,ZnI,Zhu hp,Zn4,Zo4,ZoK,Zc6 (x:=lit) (n:=lines c) (by omega) (by omega)]
  cases h2:litN (lines c) lit with
  | false=>simp
  | true=>
   have hi0:=hp.i0
   have hi1:=hp.i1
   have hl:=hp.len
   simp only [ZnY,Zn6,ZnI,ZnV]
   rw [Xv (I:=fun k t=>t = ((k:Int),accF c k)) (m:=c.Gates.length) (r:=accF c c.Gates.length) (fun k t hk ht=>?_) (fun t ht=>?_) c.Gates.length 0 (0,[[1]]) (by omega) rfl (N + 6) (lt_fuel (by omega))]
   ·simp only [Zn4]
    have ha:app? (accF c c.Gates.length) [[lit]] = some (accF c c.Gates.length ++ [[lit]]):=by unfold app?; rw [ZnC (by rw [accF_len]; simp; unfold room; omega)]
    rw [ha]
    rfl
   all_goals subst ht
   ·refine ⟨_, ?_, rfl⟩
    have o:=gate_ok hp (Zcd hk)
    simp only [accF]
    rw [ZnC (by rw [Za]; simp; omega),get?_nat,Zcd hk]
    simp only [Zn4]
    generalize c.Gates.getD k ⟨0,0⟩ = g at o ⊢
    rw [show w64 (2 + c.Inputs) = c.Inputs + 2 by rw [Ze (by omega) (by omega)]; omega,Ze (x:=c.Inputs + 2 + (k:Int)) (by omega) (by omega),XF o.a (ZoD _),XF o.b (ZoD _),XF o.l (ZoD _)]
    have m1:ZJ (N + 6) [-(c.Inputs + 2 + (k:Int)),g.A] = _:=mkI2 N o.nl o.a o.al'
    have m2:ZJ (N + 6) [-(c.Inputs + 2 + (k:Int)),g.B] = _:=mkI2 N o.nl o.b o.bl'
    have m3:ZJ (N + 6) [c.Inputs + 2 + (k:Int),-g.A,-g.B] = _:=mkI3 N o.l o.na o.nb o.ab o.bl
    have q:=inner3 N (MC:=ZJ (N + 6)) m1 m2 m3 (out:=accF c k) (by rw [accF_len]; omega)
    have q':iterN _ (N + 6) _ = _:=q
    rw [q']
    simp only [Zn4]
    rw [Ze (by omega) (by omega)]
    rfl
   ·simp only
    rw [ZnA (by rw [Za]; simp)]
def IncI (n:Int) (c:List Int):Prop:=(∀ x ∈ c,litN n x = true) ∧ c.Pairwise fun x y=>iab x < iab y
theorem Zlf {c:D.Circuit}:∀ k,∀ x ∈ accF c k,x = [1] ∨ ∃ i,i < k ∧ x ∈ stepF c i (c.Gates.getD i ⟨0,0⟩):=by
 intro k
 induction k with
 | zero=>intro x hx; exact .inl (ZnX.1 hx)
 | succ k ih=>
  intro x hx
  rcases ZnS.1 hx with h | h
  ·rcases ih x h with h | ⟨i, h1, h2⟩
   ·exact .inl h
   ·exact .inr ⟨i,by omega,h2⟩
  ·exact .inr ⟨k,by omega,h⟩
theorem inc1 {n x:Int} (h:litN n x = true):IncI n [x]:=⟨fun y hy=>by rw [ZnX.1 hy]; exact h,by simp⟩
theorem form_inc {c:D.Circuit} (hc:CircP c) {lit:Int} (hl:litN (lines c) lit = true):∀ x ∈ accF c c.Gates.length ++ [[lit]],IncI (lines c) x ∧ x.length ≤ 3:=by
 intro x hx
 rcases ZnS.1 hx with hx | hx
 ·rcases Zlf _ x hx with rfl | ⟨i, hi, h⟩
  ·exact ⟨inc1 (litN_iff.2 (by have:=hc.lines0; unfold iab; simp; omega)),by simp⟩
  ·have o := gate_ok hc (Zcd hi)
   have hb:=Zbd.1 (hc.gate i _ (Zcd hi))
   have hlt:(c.Gates.take i).length = i:=by simp; omega
   rw [hlt] at hb
   obtain ⟨h1,h2,h3,h4,-⟩:=hb
   generalize c.Gates.getD i ⟨0,0⟩ = g at *
   have hi0:=hc.i0
   have eN:lines c = c.Inputs + 1 + (c.Gates.length:Int):=rfl
   have lt:∀ y:Int,1 ≤ iab y → iab y ≤ c.Inputs + 2 + (i:Int) → litN (lines c) y = true:=fun y a b=>litN_iff.2 ⟨a,by omega⟩
   have o1:=(litN_iff.1 o.a).1
   have o2:=(litN_iff.1 o.b).1
   have o3:=(litN_iff.1 o.l).1
   have e1:iab (c.Inputs + 2 + (i:Int)) = c.Inputs + 2 + (i:Int):=by unfold iab; rw [ZnA (by omega)]
   have oa:=o.al'
   have ob:=o.bl'
   have oc:=o.ab
   rw [iab_neg,e1] at oa ob
   rw [iab_neg,iab_neg] at oc
   unfold stepF at h
   simp only [Zof,Zpy,or_false] at h
   rcases h with rfl | rfl | rfl
   ·exact ⟨⟨by simp only [Zof,Zpy,or_false]; rintro y (rfl | rfl); exact lt _ o1 (by omega); exact lt _ (by rw [iab_neg]; omega) (by rw [iab_neg]; omega),by simp [iab_neg,e1]; omega⟩,by simp⟩
   ·exact ⟨⟨by simp only [Zof,Zpy,or_false]; rintro y (rfl | rfl); exact lt _ o2 (by omega); exact lt _ (by rw [iab_neg]; omega) (by rw [iab_neg]; omega),by simp [iab_neg,e1]; omega⟩,by simp⟩
   ·exact ⟨⟨by simp only [Zof,Zpy,or_false]; rintro y (rfl | rfl | rfl); exact lt _ (by rw [iab_neg]; omega) (by rw [iab_neg]; omega); exact lt _ (by rw [iab_neg]; omega) (by rw [iab_neg]; omega); exact lt _ (by omega) (by omega),by simp [iab_neg,e1]; omega⟩,by simp⟩
 ·rw [ZnX.1 hx]; exact ⟨inc1 hl,by simp⟩
def prv (c:List Int):Nat → Int
 | 0=>0
 | k + 1=>iab (c.getD k 0)
theorem Zkt {n:Int} {c:List Int} (h:IncI n c) {k:Nat} (hk:k < c.length):1 ≤ iab c[k] ∧ iab c[k] ≤ n ∧ prv c k < iab c[k]:=by
 have h1:=litN_iff.1 (h.1 _ (Zoq hk))
 refine ⟨h1.1,h1.2,?_⟩
 cases k with
 | zero=>show (0:Int) < _; omega
 | succ k=>
  show iab (c.getD k 0) < _
  rw [Zn8,Zn5 (by omega)]
  exact (Zpf.1 h.2) k (k + 1) (by omega) hk (by omega)
theorem ZkR {n:Int} {c:List Int} (h0:0 ≤ n) (h1:n ≤ 400) (h:IncI n c) (hl:c.length ≤ 1000):Yg fuel c n = some true:=by
 unfold Yg
 rw [ZaW h0 (by omega) (by omega),show c.all (litN n) = true from ZnP.2 h.1]
 simp only [Zn4,ZnY,Zn6,ZnI]
 rw [Xv (I:=fun k t=>t = ((k + 1:Nat):Int)) (m:=c.length - 1) (r:=.inl ()) (fun k t hk ht=>?_) (fun t ht=>?_) (c.length - 1) 0 1 (by omega) rfl fuel (lt_fuel (by omega))]
 ·rfl
 all_goals subst ht
 ·refine ⟨_, ?_, rfl⟩
  have hk1:k + 1 < c.length:=by omega
  have hk0:k < c.length:=by omega
  obtain ⟨a1,a2,a3⟩:=Zkt h hk1
  obtain ⟨b1,b2,b3⟩:=Zkt h hk0
  have hx : -1000 ≤ c[k + 1] ∧ fitInt c[k + 1]:=by unfold fitInt; unfold iab at a2; split at a2 <;> omega
  have hy : -1000 ≤ c[k] ∧ fitInt c[k]:=by unfold fitInt; unfold iab at b2; split at b2 <;> omega
  replace a3:iab (c.getD k 0) < _:=a3
  rw [Zn8,Zn5 hk0] at a3
  have e1:w64 (((k + 1:Nat):Int) - 1) = (k:Int):=by rw [Ze (by omega) (by omega)]; omega
  rw [ZnC (by rw [Za]; simp; omega),e1,get?_nat,get?_nat,Zn5 hk1,Zn5 hk0]
  simp only [Zn4,ZX hx.2 hx.1,ZX hy.2 hy.1]
  rw [ZnA (by simp at a3 ⊢; omega),Ze (by omega) (by omega)]; rfl
 ·rw [ZnA (by rw [Za]; simp; omega)]
section
variable {f:D.Formula} (h0:0 ≤ f.Vars) (h1:f.Vars ≤ 400) (hn:f.Clauses.length ≤ 1600) (h:∀ c ∈ f.Clauses,IncI f.Vars c ∧ c.length ≤ 1000)
include h0 h1 hn h
theorem impl_fok:YF fuel f = some true:=by
 unfold YF
 rw [ZnA (by rw [Za]; simp; omega)]
 rw [Xv (I:=fun k t=>t = (k:Int)) (m:=f.Clauses.length) (r:=.inl ()) (fun k t hk ht=>?_) (fun t ht=>?_) f.Clauses.length 0 0 (by omega) rfl fuel (lt_fuel (by omega))]
 ·rfl
 all_goals subst ht
 ·refine ⟨((k + 1 : Nat) : Int), ?_, rfl⟩
  have hc:=h _ (Zoq hk)
  rw [ZnC (by rw [Za]; simp; omega),get?_nat,Zn5 hk]
  simp only [Zn4]
  rw [ZkR h0 h1 hc.1 hc.2]
  simp only [Zn4]
  rw [ZnA (by simp),Ze (by omega) (by omega)]; rfl
 ·rw [ZnA (by rw [Za]; simp)]
end
end Go.Proofs.YthlolmkdppfioaaGreat.Cc
end
section
namespace Go.Proofs.YthlolmkdppfioaaGreat
open Go.GL
set_option linter.unusedSimpArgs false
set_option maxRecDepth 100000
theorem itS {σt ρt:Type} {B:σt → Option (σt ⊕ ρt)} {s s':σt} {n:Nat} (h:B s = some (.inl s')):iterN B (n + 1) s = iterN B n s':=by
 rw [iterN,h]
theorem itE {σt ρt:Type} {B:σt → Option (σt ⊕ ρt)} {s:σt} {r:ρt} {n:Nat} (h:B s = some (.inr r)) (hn:0 < n):iterN B n s = some r:=by
 obtain ⟨n,rfl⟩ : ∃ k,n = k + 1:=⟨n - 1,by omega⟩
 rw [iterN,h]
def bit (b:Bool):Int:=if b then 1 else 0
def wrd (l:List Bool):Int:=l.foldl (fun a b=>w64 (w64 (2 * a) + bit b)) 0
theorem Zgr (l:List Bool) (b:Bool):wrd (l ++ [b]) = w64 (w64 (2 * wrd l) + bit b):=by unfold wrd; rw [Zor]; rfl
def valsP (model:List Bool):Nat → List D.Value → List D.Value
 | _,[]=>[]
 | off,v :: L=>⟨v.Name,v.W,wrd ((model.drop off).take v.W.toNat)⟩ :: valsP model (off + v.W.toNat) L
def wsum (L:List D.Value):Nat:=(L.map fun v=>v.W.toNat).sum
theorem Zds:∀ (L:List D.Value) (a:Int),(∀ v ∈ L,1 ≤ v.W ∧ v.W ≤ 16) → bitsV L a = a + (wsum L:Int)
 | [],a,_=>by unfold wsum bitsV; simp
 | v :: L,a,h=>by
  have hv:=h v (by simp)
  rw [Zbt,Zds L _ fun x hx=>h x (by simp [hx])]
  unfold wsum
  rw [ZnE,Zrs]; omega
section
variable {model:List Bool} (hM:model.length ≤ 1000)
theorem Zja {off j:Nat} (h:off + j < model.length):(model.drop off).take (j + 1) = (model.drop off).take j ++ [model[off + j]]:=by
 rw [ZnG (by rw [Zoe]; omega),ZqG]
include hM
theorem ZhA {off W:Nat} {out rest:List D.Value} {nm:Str} (h:off + W ≤ model.length) (ho:out.length ≤ 1000) {n:Nat} (hn:2000 ≤ n):iterN (fun (s2:Int × Int × (List D.Value))=>
    (get? s2.2.2 (out.length:Int)).bind fun x2=>
    if (decide (s2.2.1 < x2.W)) then
     (get? s2.2.2 (out.length:Int)).bind fun x3=>
     (get? model (w64 (s2.1 - 1))).bind fun x4=>
     (YP x4).bind fun x5=>
     (get? s2.2.2 (out.length:Int)).bind fun x6=>
     (set? s2.2.2 (out.length:Int) ({ x6 with N:=(w64 ((w64 (2 * x3.N)) + x5)) }:D.Value)).bind fun x7=>
     some (.inl ((w64 (s2.1 + 1)),(w64 (s2.2.1 + 1)),x7))
    else
     some (.inr (s2.1,s2.2.2))) n (((off + 1:Nat):Int),0,out ++ ⟨nm,(W:Int),0⟩ :: rest) = some (((off + W + 1:Nat):Int),out ++ ⟨nm,(W:Int),wrd ((model.drop off).take W)⟩ :: rest):=by
  have hat:∀ v:D.Value,get? (out ++ v :: rest) (out.length:Int) = some v:=fun v=>by rw [get?_nat]; simp
  have hst:∀ v v':D.Value,set? (out ++ v :: rest) (out.length:Int) v' = some (out ++ v' :: rest):=fun v v'=>by rw [set?_nat (by simp)]; simp
  rw [Xv (I:=fun k t=>t = (((off + k + 1:Nat):Int),(k:Int),out ++ ⟨nm,(W:Int),wrd ((model.drop off).take k)⟩ :: rest)) (m:=W) (r:=(((off + W + 1:Nat):Int),out ++ ⟨nm,(W:Int),wrd ((model.drop off).take W)⟩ :: rest)) (fun k t hk ht=>?_) (fun t ht=>?_) W 0 _ (by omega) (by simp [wrd]) n (by omega)]
  all_goals subst ht
  · refine ⟨_, ?_, rfl⟩
    have hd:decide ((k:Int) < (W:Int)) = true:=decide_eq_true (by omega)
    have ht:YP model[off + k] = some (bit model[off + k]):=by unfold YP bit; split <;> rfl
    have e1:w64 (((off + k + 1:Nat):Int) - 1) = ((off + k:Nat):Int):=by rw [Ze (by omega) (by omega)]; omega
    simp only [hat,Zn4,hd,ZnV,e1]
    rw [get?_nat,Zn5 (by omega)]
    simp only [Zn4,ht,hst]
    rw [Zja (by omega),Zgr,Ze (x:=((off + k + 1:Nat):Int) + 1) (by omega) (by omega),Ze (x:=(k:Int) + 1) (by omega) (by omega)]; rfl
  · have hd : decide ((W : Int) < (W : Int)) = false := decide_eq_false (by omega)
    simp only [hat,Zn4,hd,Zn6,ZnI]
theorem Zf6 {L:List D.Value} (hL:L.length ≤ 1000) (hw:∀ v ∈ L,1 ≤ v.W ∧ v.W ≤ 16) {n:Nat} (hn:4000 ≤ n) (hs:1 + wsum L ≤ model.length) {t:D.Term} (hv:YU n t = some (L.map zv)):XB n t model = some (valsP model 1 L):=by
  unfold XB
  rw [hv]
  simp only [Zn4]
  have key:∀ (rest pre out:List D.Value) (off k:Nat),pre ++ rest = L → off + wsum rest ≤ model.length → out.length = pre.length → rest.length < k → iterN (fun (s1:Int × Int × (List D.Value))=>
  if (decide (s1.2.1 < (len (L.map zv)))) then
   (iterN (fun (s2 : Int × Int × (List D.Value)) =>
    (get? s2.2.2 s1.2.1).bind fun x2=>
    if (decide (s2.2.1 < x2.W)) then
     (get? s2.2.2 s1.2.1).bind fun x3=>
     (get? model (w64 (s2.1 - 1))).bind fun x4=>
     (YP x4).bind fun x5=>
     (get? s2.2.2 s1.2.1).bind fun x6=>
     (set? s2.2.2 s1.2.1 ({ x6 with N:=(w64 ((w64 (2 * x3.N)) + x5)) }:D.Value)).bind fun x7=>
     some (.inl ((w64 (s2.1 + 1)),(w64 (s2.2.1 + 1)),x7))
    else
     some (.inr (s2.1,s2.2.2))
   ) n (s1.1,0,s1.2.2)).bind fun (rl2:Int × (List D.Value))=>
   some (.inl (rl2.1,(w64 (s1.2.1 + 1)),rl2.2))
  else
   some (.inr (s1.2.2))) k (((off + 1:Nat):Int),(pre.length:Int),out ++ rest.map zv) = some (out ++ valsP model off rest):=by
    intro rest
    induction rest with
    | nil =>
      intro pre out off k he hb ho hk
      have hd:decide ((pre.length:Int) < len (L.map zv)) = false:=by rw [Za,Zog,← he,Zoz]; simp
      refine itE ?_ (by omega)
      simp only [hd,Zn6,ZnI,valsP,Zoz,Zoy]
    | cons v rest ih =>
      intro pre out off k he hb ho hk
      have hlen:pre.length + (rest.length + 1) = L.length:=by rw [← he]; simp
      simp only [ZnL] at hk
      obtain ⟨k,rfl⟩ : ∃ j,k = j + 1:=⟨k - 1,by omega⟩
      have hd:decide ((pre.length:Int) < len (L.map zv)) = true:=by rw [Za,Zog]; exact decide_eq_true (by omega)
      have hv:=hw v (by rw [← he]; simp)
      have hws:wsum (v :: rest) = v.W.toNat + wsum rest:=by unfold wsum; rw [ZnE,Zrs]
      have hvw:((v.W.toNat:Nat):Int) = v.W:=by omega
      have hin:=ZhA hM (off:=off) (W:=v.W.toNat) (out:=out) (rest:=rest.map zv) (nm:=v.Name) (n:=n) (by omega) (by omega) (by omega)
      rw [hvw] at hin
      rw [itS (s':=(((off + v.W.toNat + 1:Nat):Int),((pre ++ [v]).length:Int),(out ++ [⟨v.Name,v.W,wrd ((model.drop off).take v.W.toNat)⟩]) ++ rest.map zv)) (by
        simp only [hd,ZnV]
        rw [← ho]
        refine (congrArg (fun o=>Option.bind o (fun (rl2:Int × (List D.Value))=>some (.inl (rl2.1,w64 ((out.length:Int) + 1),rl2.2):(Int × Int × List D.Value) ⊕ List D.Value))) hin).trans ?_
        simp only [Zn4]
        rw [Ze (by omega) (by omega)]
        simp [ho])]
      rw [ih (pre ++ [v]) _ _ k (by rw [Zoh]; exact he) (by omega) (by rw [ZnD,ZnD,ho]; rfl) (by omega),valsP,Zoh]; rfl
  have:=key L [] [] 1 n rfl hs rfl (by omega)
  exact congrArg (fun o=>Option.bind o fun (rl1:List D.Value)=>some rl1) this
end
end Go.Proofs.YthlolmkdppfioaaGreat
end
section
namespace Go.Proofs.YthlolmkdppfioaaGreat.Sv
open Go.GL
set_option linter.unusedSimpArgs false
def lv (a:List Int) (x:Int):Int:=if x < 0 then -(a.getD x.natAbs 0) else a.getD x.natAbs 0
def isL (m:Nat) (x:Int):Prop:=x ≠ 0 ∧ x.natAbs ≤ m
structure Asg (m:Nat) (a:List Int):Prop where
 len:a.length = m + 1
 val:∀ i,a.getD i 0 = -1 ∨ a.getD i 0 = 0 ∨ a.getD i 0 = 1
 nul:a.getD 0 0 = 0
structure ClM (m:Nat) (c:List Int):Prop where
 lit:∀ x ∈ c,isL m x
 dif:c.Pairwise fun x y=>x.natAbs ≠ y.natAbs
def stA (a:List Int) (l:Int):List Int:=a.set l.natAbs (if l < 0 then -1 else 1)
theorem ZaF {a:List Int} {x:Int} (h:x ≠ 0):lv a (-x) = - lv a x:=by
 unfold lv
 rw [Zqu]
 by_cases c:x < 0
 ·rw [ZnA (by omega),ZnC c]; omega
 ·rw [ZnC (by omega),ZnA c]
theorem Zl1 {m:Nat} {a:List Int} (h:Asg m a) (x:Int):lv a x = -1 ∨ lv a x = 0 ∨ lv a x = 1:=by
 unfold lv
 have:=h.val x.natAbs
 split <;> omega
theorem ZeM {a:List Int} {i j:Nat} {v:Int} (h:i < a.length):(a.set i v).getD j 0 = if j = i then v else a.getD j 0:=by
 rw [Zn8,ZoU,Zn8]
 by_cases e:i = j
 ·subst e; rw [ZnC rfl,ZnC h,ZnC rfl]; rfl
 ·rw [ZnA e,ZnA (Ne.symm e)]
theorem Za9 {m:Nat} {a:List Int} {l x:Int} (ha:a.length = m + 1) (hl:isL m l) (hx:x ≠ 0):lv (stA a l) x = if x = l then 1 else if x = -l then -1 else lv a x:=by
 obtain ⟨l0,l1⟩:=hl
 unfold lv stA
 rw [ZeM (by omega)]
 by_cases e:x.natAbs = l.natAbs
 ·rw [ZnC e]
  by_cases e1:x = l
  ·subst e1
   rw [ZnC rfl]
   by_cases c:x < 0
   ·rw [ZnC c,ZnC c]; omega
   ·rw [ZnA c,ZnA c]
  ·have e2 : x = -l := by omega
   rw [ZnA e1,ZnC e2]
   by_cases c:x < 0
   ·rw [ZnC c,ZnA (by omega)]
   ·rw [ZnA c,ZnC (by omega)]
 ·rw [ZnA e,ZnA (show ¬ x = l by intro h; exact e (by rw [h])),ZnA (show ¬ x = -l by intro h; exact e (by rw [h,Zqu]))]
theorem ZdW {m:Nat} {a:List Int} {l:Int} (h:Asg m a) (hl:isL m l):Asg m (stA a l):=by
 obtain ⟨l0,l1⟩:=hl
 have h1:=h.len
 refine ⟨by unfold stA; rw [Zqc]; exact h1,fun i=>?_,?_⟩
 ·unfold stA
  rw [ZeM (by omega)]
  split
  ·split <;> omega
  ·exact h.val i
 ·unfold stA
  rw [ZeM (by omega),ZnA (by omega)]; exact h.nul
theorem Zlz {m:Nat} {a b:List Int} (ha:Asg m a) (hb:Asg m b) (h:∀ x,isL m x → (lv a x = 1 ↔ lv b x = 1)):a = b:=by
 refine ZpQ (ha.len.trans hb.len.symm) fun i h1 h2=>?_
 have g1:a.getD i 0 = a[i]:=by rw [Zn8,Zn5 h1]; rfl
 have g2:b.getD i 0 = b[i]:=by rw [Zn8,Zn5 h2]; rfl
 rw [← g1,← g2]
 by_cases hi:i = 0
 ·subst hi; rw [ha.nul,hb.nul]
 have hm:i ≤ m:=by have:=ha.len; omega
 have p:=h (i:Int) ⟨by omega,by omega⟩
 have q:=h (-(i:Int)) ⟨by omega,by omega⟩
 rw [ZaF (by omega),ZaF (by omega)] at q
 have e:∀ c:List Int,lv c (i:Int) = c.getD i 0:=fun c=>by unfold lv; rw [ZnA (by omega)]; simp
 rw [e,e] at p q
 have va:=ha.val i
 have vb:=hb.val i
 omega
inductive Der (cs:List (List Int)) (S:Int → Prop):Int → Prop
 | base {x:Int}:S x → Der cs S x
 | unit {c:List Int} {x:Int}:c ∈ cs → x ∈ c → (∀ y ∈ c,y ≠ x → Der cs S (-y)) → Der cs S x
def good (a:List Int) (c:List Int):Prop:=(∃ x ∈ c,lv a x = 1) ∨ ∃ x ∈ c,∃ y ∈ c,x ≠ y ∧ lv a x = 0 ∧ lv a y = 0
structure Okc (m:Nat) (cs:List (List Int)) (S:Int → Prop) (a:List Int):Prop where
 asg:Asg m a
 ext:∀ x,S x → lv a x = 1
 snd:∀ x,isL m x → lv a x = 1 → Der cs S x
 cl:∀ c ∈ cs,good a c
def Bad (cs:List (List Int)) (S:Int → Prop):Prop:=∃ c ∈ cs,∀ y ∈ c,Der cs S (-y)
section
variable {m:Nat} {cs:List (List Int)} {S:Int → Prop} {a b:List Int}
theorem Zhn (hcs:∀ c ∈ cs,ClM m c) (h:Okc m cs S a) {x:Int} (hd:Der cs S x):lv a x = 1:=by
 induction hd with
 | base hx=>exact h.ext _ hx
 | @unit c x hc hx _ ih=>
  have ih':∀ y ∈ c,y ≠ x → lv a y = -1:=fun y hy hne=>by
   have:=ih y hy hne
   rw [ZaF ((hcs c hc).lit y hy).1] at this
   omega
  rcases h.cl c hc with ⟨z,hz,hz1⟩ | ⟨y,hy,z,hz,hne,hy0,hz0⟩
  ·by_cases e : z = x
   ·subst e; exact hz1
   ·have:=ih' z hz e; omega
  ·by_cases e : y = x
   ·have:=ih' z hz (fun e'=>hne (e.trans e'.symm)); omega
   ·have:=ih' y hy e; omega
theorem Zgf (hcs:∀ c ∈ cs,ClM m c) (h:Okc m cs S a):¬ Bad cs S:=fun ⟨c,hc,hb⟩=>by
 have ih:∀ y ∈ c,lv a y = -1:=fun y hy=>by
  have:=Zhn hcs h (hb y hy)
  rw [ZaF ((hcs c hc).lit y hy).1] at this
  omega
 rcases h.cl c hc with ⟨z,hz,hz1⟩ | ⟨y,hy,z,hz,hne,hy0,hz0⟩
 ·have:=ih z hz; omega
 ·have:=ih y hy; omega
theorem ZjU (hcs:∀ c ∈ cs,ClM m c) (h:Okc m cs S a) (h':Okc m cs S b):a = b:=
 Zlz h.asg h'.asg fun x hx=>⟨fun e=>Zhn hcs h' (h.snd x hx e),fun e=>Zhn hcs h (h'.snd x hx e)⟩
def Res (m:Nat) (cs:List (List Int)) (S:Int → Prop):Option (List Int) → Prop
 | some a=>Okc m cs S a
 | none=>Bad cs S
def free (a:List Int) (c:List Int):List Int:=c.filter fun x=>lv a x == 0
theorem ZbU {c:List Int} {x:Int}:x ∈ free a c ↔ x ∈ c ∧ lv a x = 0:=by unfold free; rw [Zoc]; simp
theorem Zg2 {c:List Int} (hc:ClM m c) (h:2 ≤ (free a c).length):good a c:=by
 have hp:(free a c).Pairwise fun x y=>x.natAbs ≠ y.natAbs:=hc.dif.filter _
 match hf:free a c,h with
 | x :: y :: l,_=>
  rw [hf] at hp
  have hx:x ∈ free a c:=by rw [hf]; simp
  have hy:y ∈ free a c:=by rw [hf]; simp
  rw [ZbU] at hx hy
  refine .inr ⟨x,hx.1,y,hy.1,fun e=>?_,hx.2,hy.2⟩
  rw [Zpq] at hp
  exact hp.1 y (by simp) (by rw [e])
def Snd (m:Nat) (cs:List (List Int)) (S:Int → Prop) (a:List Int):Prop:=∀ x,isL m x → lv a x = 1 → Der cs S x
theorem ZiO (hA:Asg m a) (hs:Snd m cs S a) {c:List Int} (hc:ClM m c) {y:Int} (hy:y ∈ c) (h1:lv a y ≠ 1) (h0:lv a y ≠ 0):Der cs S (-y):=by
 have hl:=hc.lit y hy
 have:=Zl1 hA y
 exact hs (-y) ⟨by have:=hl.1; omega,by rw [Zqu]; exact hl.2⟩ (by rw [ZaF hl.1]; omega)
theorem ZgV (hA:Asg m a) (hs:Snd m cs S a) {c:List Int} (hcs:c ∈ cs) (hc:ClM m c) (hn:∀ x ∈ c,lv a x ≠ 1) (hf:free a c = []):Bad cs S :=
 ⟨c, hcs, fun y hy => ZiO hA hs hc hy (hn y hy) fun h => by
  have:y ∈ free a c:=ZbU.2 ⟨hy,h⟩
  rw [hf] at this; cases this⟩
theorem ZkH (hA:Asg m a) (hs:Snd m cs S a) {c:List Int} (hcs:c ∈ cs) (hc:ClM m c) (hn:∀ x ∈ c,lv a x ≠ 1) {l:Int} (hf:free a c = [l]):isL m l ∧ l ∈ c ∧ lv a l = 0 ∧ Asg m (stA a l) ∧ Snd m cs S (stA a l):=by
 have hl:l ∈ free a c:=by rw [hf]; simp
 rw [ZbU] at hl
 have hL:=hc.lit l hl.1
 refine ⟨hL,hl.1,hl.2,ZdW hA hL,fun x hx h=>?_⟩
 rw [Za9 hA.len hL hx.1] at h
 by_cases e:x = l
 ·subst e
  refine .unit hcs hl.1 fun y hy hne=>ZiO hA hs hc hy (hn y hy) fun h0=>?_
  have:y ∈ free a c:=ZbU.2 ⟨hy,h0⟩
  rw [hf,ZnX] at this
  exact hne this
 ·rw [ZnA e] at h
  split at h
  ·omega
  ·exact hs x hx h
theorem ZcZ (hA:Asg m a) {l:Int} (hl:isL m l) (h0:lv a l = 0) {x:Int} (hx:x ≠ 0) (h:lv a x ≠ 0):lv (stA a l) x = lv a x:=by
 rw [Za9 hA.len hl hx,ZnA (show ¬ x = l from fun e=>h (e ▸ h0)),ZnA (show ¬ x = -l from fun e=>h (by rw [e,ZaF hl.1,h0]; rfl))]
theorem Zgq (hA:Asg m a) {l:Int} (hl:isL m l) (h0:lv a l = 0) {c:List Int} (hc:ClM m c) (h:good a c):good (stA a l) c ∨ -l ∈ c:=by
 by_cases hn : -l ∈ c
 ·exact .inr hn
 refine .inl ?_
 rcases h with ⟨x,hx,h1⟩ | ⟨x,hx,y,hy,hne,hx0,hy0⟩
 ·exact .inl ⟨x,hx,by rw [ZcZ hA hl h0 (hc.lit x hx).1 (by omega)]; exact h1⟩
 ·by_cases e : l ∈ c
  ·exact .inl ⟨l,e,by rw [Za9 hA.len hl hl.1,ZnC rfl]⟩
  ·have k:∀ z ∈ c,lv a z = 0 → lv (stA a l) z = 0:=fun z hz hz0=>by
    rw [Za9 hA.len hl (hc.lit z hz).1,ZnA (show ¬ z = l from fun e'=>e (e' ▸ hz)),ZnA (show ¬ z = -l from fun e'=>hn (e' ▸ hz))]; exact hz0
   exact .inr ⟨x,hx,y,hy,hne,k x hx hx0,k y hy hy0⟩
end
set_option maxRecDepth 100000
structure FmP (f:D.Formula) (m:Nat):Prop where
 vars:f.Vars = m
 small:m ≤ 400
 num:f.Clauses.length ≤ 1600
 cl:∀ c ∈ f.Clauses,ClM m c ∧ c.length ≤ 1000
def Sv (m:Nat) (v:List Int) (x:Int):Prop:=isL m x ∧ lv v x = 1
def zer (v:List Int):Nat:=v.count 0
theorem Zcv {σt ρt:Type} {B:σt → Option (σt ⊕ ρt)} {s s':σt} {n:Nat} (h:B s = some (.inl s')):iterN B (n + 1) s = iterN B n s':=by
 rw [iterN,h]
section
variable {m:Nat} {a:List Int} {x:Int}
theorem Za0 {i:Nat} (h:i < a.length):a[i]? = some (a.getD i 0):=by
 rw [Zn8,Zn5 h]; rfl
theorem Zdd (hA:Asg m a) (hl:isL m x) (h0:lv a x = 0):zer (stA a x) + 1 = zer a:=by
 obtain ⟨l0,l1⟩:=hl
 have hi:x.natAbs < a.length:=by have:=hA.len; omega
 have hg:a[x.natAbs] = 0:=by
  have h1:=Za0 hi
  rw [Zn5 hi] at h1
  have h2:=Option.some.inj h1
  unfold lv at h0
  rw [h2]
  split at h0 <;> omega
 have hpos:0 < a.count 0:=Zqm.2 (hg ▸ Zoq hi)
 unfold zer stA
 rw [List.count_set hi,hg]
 have hne:((if x < 0 then (-1:Int) else 1) == 0) = false:=by split <;> decide
 simp only [Zph,ZnV,hne,Zn6,ZnI]
 omega
theorem Zmh (hm:m ≤ 400) (hl:isL m x):(if (decide (x < 0)) = true then some (w64 (0 - x)) else some x) = some (x.natAbs:Int):=by
 obtain ⟨l0,l1⟩:=hl
 by_cases h:x < 0
 ·rw [ZnC (by simpa using h),Ze (by omega) (by omega)]; congr 1; omega
 ·rw [ZnA (by simpa using h)]; congr 1; omega
theorem Zkk (hA:Asg m a) (hl:isL m x):get? a (x.natAbs:Int) = some (a.getD x.natAbs 0):=by
 rw [get?_nat]
 exact Za0 (by have:=hA.len; have:=hl.2; omega)
def lst (l:List Int):Int:=l.getLastD 0
theorem ZgC (c d:List Int):free a (c ++ d) = free a c ++ free a d:=by unfold free; rw [List.filter_append]
theorem Zmd (l:List Int) (y:Int):lst (l ++ [y]) = y:=by unfold lst; simp
theorem ZlZ (hA:Asg m a) (hl:isL m x):set? a (x.natAbs:Int) (if x < 0 then -1 else 1) = some (stA a x):=by
 unfold set? stA
 rw [ZnC ⟨by omega,by have:=hA.len; have:=hl.2; simp; omega⟩]; simp
end
section
variable {f:D.Formula} {m:Nat} {S:Int → Prop}
structure Way (m:Nat) (cs:List (List Int)) (S:Int → Prop) (a:List Int):Prop where
 asg:Asg m a
 ext:∀ x,S x → lv a x = 1
 snd:Snd m cs S a
theorem Way.unit {cs:List (List Int)} {a:List Int} (h:Way m cs S a) (hS:∀ x,S x → isL m x) {c:List Int} (hc:c ∈ cs) (hm:ClM m c) (hn:∀ x ∈ c,lv a x ≠ 1) {l:Int} (hf:free a c = [l]):Way m cs S (stA a l) ∧ isL m l ∧ lv a l = 0 ∧ l ∈ c:=by
 obtain ⟨h1,h2,h3,h4,h5⟩:=ZkH h.asg h.snd hc hm hn hf
 refine ⟨⟨h4,fun x hx=>?_,h5⟩,h1,h3,h2⟩
 rw [ZcZ h.asg h1 h3 (hS x hx).1 (by rw [h.ext x hx]; decide)]
 exact h.ext x hx
theorem Zdk {a:List Int} {c:List Int}:(c.any fun x=>lv a x == 1) = true ↔ ∃ x ∈ c,lv a x = 1:=by
 rw [List.any_eq_true]; simp
theorem Zli {a:List Int} (h:Asg m a):zer a ≤ m + 1:=by
 rw [← h.len]; exact List.count_le_length
end
section
variable {f:D.Formula} {m:Nat} {S:Int → Prop}
theorem ZX {x:Int} (hm:m ≤ 400) (hl:isL m x):ZR x = some (x.natAbs:Int):=Zmh hm hl
theorem ZkS {x:Int} (hm:m ≤ 400) (hl:isL m x):(cond (decide (x < 0)) (w64 (0 - x)) x) = (x.natAbs:Int):=by
 obtain ⟨l0,l1⟩:=hl
 by_cases h:x < 0
 ·rw [decide_eq_true h,cond_true,Ze (by omega) (by omega)]; omega
 ·rw [decide_eq_false h,cond_false]; omega
theorem Zkn {x:Int}:(cond (decide (x < 0)) (-1) 1:Int) = if x < 0 then -1 else 1:=by
 by_cases h:x < 0
 ·rw [decide_eq_true h,cond_true,ZnC h]
 ·rw [decide_eq_false h,cond_false,ZnA h]
theorem Zly {α:Type} {l:List α} {x:α} (h:l.length ≤ 1000000):app? l [x] = some (l ++ [x]):=by
 unfold app? room; rw [ZnC (by simp; omega)]
theorem ZgW {a q:List Int} {l:Int} (hA:Asg m a) (hm:m ≤ 400) (hl:isL m l) (h0:lv a l = 0) (hq:q.length ≤ 1000000):Z4 ⟨a,q⟩ l = some (true,⟨stA a l,q ++ [l]⟩):=by
 have hg:a.getD l.natAbs 0 = 0:=by unfold lv at h0; split at h0 <;> omega
 unfold Z4
 rw [ZkS hm hl,Zkk hA hl,hg]
 simp only [Zn4]
 rw [ZnA (by decide),Zkn,ZlZ hA hl]
 simp only [Zn4]
 rw [Zly hq]; rfl
theorem ZjK {a q:List Int} (hA:Asg m a) (hm:m ≤ 400) {c:List Int} (hc:∀ x ∈ c,isL m x) (hlen:c.length ≤ 1000) (hq:q.length ≤ 1000000) {n:Nat} (hn:2000 ≤ n) :
    ((c.any fun x=>lv a x == 1) = true ∧ Zm n ⟨a,q⟩ c = some (true,⟨a,q⟩)) ∨
    ((c.any fun x=>lv a x == 1) = false ∧ ((free a c = [] ∧ Zm n ⟨a,q⟩ c = some (false,⟨a,q⟩)) ∨ (∃ l,free a c = [l] ∧ Zm n ⟨a,q⟩ c = some (true,⟨stA a l,q ++ [l]⟩)) ∨ (2 ≤ (free a c).length ∧ Zm n ⟨a,q⟩ c = some (true,⟨a,q⟩)))):=by
  obtain ⟨r,g1,g2⟩:=Yk (l:=c) (n:=n) (σ:=Int × Int) (ρ:=(Int × Int) ⊕ (Bool × D.assignment)) (B:=fun (s1:Int × Int × Int)=>
  if (decide (s1.2.2 < (len c))) then
   (get? c s1.2.2).bind fun x1=>
   (ZR x1).bind fun x2=>
   (get? a x2).bind fun x3=>
   if (x3 == 0) then
    some (.inl ((w64 (s1.1 + 1)),x1,(w64 (s1.2.2 + 1))))
   else
    if ((decide (x3 > 0)) == (decide (x1 > 0))) then
     some (.inr (.inr (true,(⟨a,q⟩ : D.assignment))))
    else
     some (.inl (s1.1,s1.2.1,(w64 (s1.2.2 + 1))))
  else
   some (.inr (.inl (s1.1,s1.2.1)))) (fun k z=>(z.1,z.2,(k:Int)))
    (fun ys z=>∃ pre,pre ++ ys = c ∧ z = (((free a pre).length:Int),lst (free a pre)) ∧ (pre.any fun x=>lv a x == 1) = false)
    (fun r=>(r = .inl (((free a c).length:Int),lst (free a c)) ∧ (c.any fun x=>lv a x == 1) = false) ∨ (r = .inr (true,⟨a,q⟩) ∧ (c.any fun x=>lv a x == 1) = true))
    (fun k x xs z hk hx hl ⟨pre,h1,h2,h3⟩=>by
      have hd:decide ((k:Int) < len c) = true:=by rw [Za]; simp; omega
      have hlx:=hc x (ZnN hx)
      have hfl:(free a pre).length ≤ c.length:=by
        rw [← h1]
        exact Zpb (List.length_filter_le _ _) (by simp)
      have hk1:w64 ((k:Int) + 1) = ((k + 1:Nat):Int):=by rw [Ze (by omega) (by omega)]; rfl
      have hv:=hA.val x.natAbs
      have hx0:=hlx.1
      subst h2
      simp only [hd,ZnV,get?_nat,hx,Zn4]
      rw [ZX hm hlx]
      simp only [Zn4]
      rw [Zkk hA hlx]
      simp only [Zn4]
      by_cases h0:a.getD x.natAbs 0 = 0
      · have hl0 : lv a x = 0 := by unfold lv; rw [h0]; split <;> rfl
        have hfr:free a (pre ++ [x]) = free a pre ++ [x]:=by
          rw [ZgC]; congr 1; unfold free; simp [hl0]
        refine .inl ⟨(((free a (pre ++ [x])).length:Int),lst (free a (pre ++ [x]))),?_,pre ++ [x],by rw [Zoh]; exact h1,rfl,?_⟩
        · rw [ZnC (by simpa using h0),hk1,hfr,Zmd,Ze (by omega) (by omega)]; simp
        · rw [List.any_append,h3]; simp [hl0]
      · have hl0 : lv a x ≠ 0 := fun e => h0 (by unfold lv at e; split at e <;> omega)
        rw [ZnA (by simpa using h0)]
        by_cases h4:lv a x = 1
        · refine .inr ⟨_, ?_, .inr ⟨rfl, Zdk.2 ⟨x, ZnN hx, h4⟩⟩⟩
          rw [ZnC]
          unfold lv at h4
          by_cases hneg:x < 0
          · rw [ZnC hneg] at h4
            have e1:a.getD x.natAbs 0 = -1:=by omega
            rw [e1,decide_eq_false (show ¬ x > 0 by omega)]; decide
          · rw [ZnA hneg] at h4
            rw [h4,decide_eq_true (show x > 0 by omega)]; decide
        · have hfr:free a (pre ++ [x]) = free a pre:=by
            rw [ZgC]
            have:free a [x] = []:=by unfold free; simp [hl0]
            rw [this,Zoz]
          refine .inl ⟨(((free a (pre ++ [x])).length:Int),lst (free a (pre ++ [x]))),?_,pre ++ [x],by rw [Zoh]; exact h1,rfl,?_⟩
          · rw [ZnA, hk1, hfr]
            unfold lv at h4
            by_cases hneg:x < 0
            · rw [ZnC hneg] at h4
              have e1:a.getD x.natAbs 0 = 1:=by omega
              rw [e1,decide_eq_false (show ¬ x > 0 by omega)]; decide
            · rw [ZnA hneg] at h4
              have e1:a.getD x.natAbs 0 = -1:=by omega
              rw [e1,decide_eq_true (show x > 0 by omega)]; decide
          · rw [List.any_append,h3]; simp [h4])
    (fun z ⟨pre,h1,h2,h3⟩=>by
      have hd:decide ((c.length:Int) < len c) = false:=by rw [Za]; simp
      simp only [hd,Zn6,ZnI]
      rw [Zoz] at h1
      subst h1
      exact ⟨_,rfl,.inl ⟨by rw [h2],h3⟩⟩) (a:=(0,0)) ⟨[],rfl,rfl,rfl⟩ (by omega)
  have G:∀ z,r = z → Zm n ⟨a,q⟩ c = (match z with
     | .inl s1r=>if (s1r.1 == 0) then some (false,⟨a,q⟩) else if (s1r.1 == 1) then (Z4 ⟨a,q⟩ s1r.2).bind fun x4=>some (x4.1,x4.2) else some (true,⟨a,q⟩)
     | .inr v=>some v):=fun z e=>by
    subst e
    unfold Zm
    exact congrArg (fun o=>Option.bind o (fun (rl1:(Int × Int) ⊕ (Bool × D.assignment))=>match rl1 with
     | .inl s1r=>if (s1r.1 == 0) then some (false,⟨a,q⟩) else if (s1r.1 == 1) then (Z4 ⟨a,q⟩ s1r.2).bind fun x4=>some (x4.1,x4.2) else some (true,⟨a,q⟩)
     | .inr v=>some v)) g1
  rcases g2 with ⟨e,hany⟩ | ⟨e,hany⟩
  · refine .inr ⟨hany, ?_⟩
    have G:=G _ e
    match hfr:free a c with
    | []=>exact .inl ⟨rfl,by rw [G,hfr]; rfl⟩
    | [l] =>
      have hlm:l ∈ free a c:=by rw [hfr]; simp
      rw [ZbU] at hlm
      refine .inr (.inl ⟨l,rfl,?_⟩)
      rw [G,hfr]
      show ((Z4 ⟨a,q⟩ l).bind fun x4=>some (x4.1,x4.2)) = _
      rw [ZgW hA hm (hc l hlm.1) hlm.2 hq]; rfl
    | x :: y :: l =>
      refine .inr (.inr ⟨by simp,?_⟩)
      rw [G,hfr]
      simp only
      rw [ZnA (by simp; omega),ZnA (by simp; omega)]
  · exact .inl ⟨hany,G _ e⟩
def pend (a q:List Int) (c:List Int):Prop:=∃ x ∈ c,lv a x = -1 ∧ -x ∈ q
structure Wq (m:Nat) (cs:List (List Int)) (S:Int → Prop) (a q:List Int):Prop where
 way:Way m cs S a
 tru:∀ l ∈ q,isL m l ∧ lv a l = 1
 len:q.length + zer a ≤ 1000
theorem Zfp (hf:FmP f m) (hS:∀ x,S x → isL m x) {a q:List Int} (hw:Wq m f.Clauses S a q) {c:List Int} (hc:c ∈ f.Clauses) (P:List Int → Prop) (hJ:∀ d ∈ f.Clauses,P d ∨ good a d ∨ pend a q d) {n:Nat} (hn:2000 ≤ n) :
  (Zm n ⟨a,q⟩ c = some (false,⟨a,q⟩) ∧ Bad f.Clauses S) ∨
  ∃ a' q',Zm n ⟨a,q⟩ c = some (true,⟨a',q'⟩) ∧ Wq m f.Clauses S a' q' ∧ q'.length + 2 * zer a' ≤ q.length + 2 * zer a ∧ good a' c ∧ ∀ d ∈ f.Clauses,P d ∨ good a' d ∨ pend a' q' d:=by
 have hcl:=hf.cl c hc
 have hA:=hw.way.asg
 rcases ZjK (q:=q) hA hf.small hcl.1.lit hcl.2 (by have:=hw.len; omega) hn with ⟨h1,h2⟩ | ⟨h1,⟨h3,h2⟩ | ⟨l,h3,h2⟩ | ⟨h3,h2⟩⟩
 ·exact .inr ⟨a,q,h2,hw,ZnK _,.inl (Zdk.1 h1),hJ⟩
 ·have hn1:∀ x ∈ c,lv a x ≠ 1:=fun x hx e=>by
   have:=Zdk.2 ⟨x,hx,e⟩
   rw [h1] at this; cases this
  exact .inl ⟨h2,ZgV hA hw.way.snd hc hcl.1 hn1 h3⟩
 ·have hn1:∀ x ∈ c,lv a x ≠ 1:=fun x hx e=>by
   have:=Zdk.2 ⟨x,hx,e⟩
   rw [h1] at this; cases this
  obtain ⟨k1,k2,k3,k4⟩:=hw.way.unit hS hc hcl.1 hn1 h3
  have hz:=Zdd hA k2 k3
  have hlen:=hw.len
  refine .inr ⟨stA a l,q ++ [l],h2,⟨k1,fun y hy=>?_,by rw [ZnD]; simp; omega⟩,by rw [ZnD]; simp; omega,.inl ⟨l,k4,by rw [Za9 hA.len k2 k2.1,ZnC rfl]⟩,fun d hd=>?_⟩
  ·rcases ZnS.1 hy with hy | hy
   ·have := hw.tru y hy
    exact ⟨this.1,by rw [ZcZ hA k2 k3 this.1.1 (by omega)]; exact this.2⟩
   ·rw [ZnX] at hy; subst hy
    exact ⟨k2,by rw [Za9 hA.len k2 k2.1,ZnC rfl]⟩
  ·rcases hJ d hd with h | h | ⟨x, hx, hx1, hx2⟩
   ·exact .inl h
   ·rcases Zgq hA k2 k3 (hf.cl d hd).1 h with h | h
    ·exact .inr (.inl h)
    ·exact .inr (.inr ⟨-l,h,by rw [ZaF k2.1,Za9 hA.len k2 k2.1,ZnC rfl],by simp⟩)
   ·exact .inr (.inr ⟨x,hx,by rw [ZcZ hA k2 k3 ((hf.cl d hd).1.lit x hx).1 (by omega)]; exact hx1,ZpM _ hx2⟩)
 ·exact .inr ⟨a,q,h2,hw,ZnK _,Zg2 hcl.1 h3,hJ⟩
end
structure OccP (f:D.Formula) (m:Nat) (occ:List (List Int)):Prop where
 len:occ.length = 2 * m + 1
 val:∀ j,∀ i ∈ occ.getD j [],0 ≤ i ∧ i < (f.Clauses.length:Int)
 all:∀ (i:Nat) (c:List Int),f.Clauses[i]? = some c → ∀ y ∈ c,(i:Int) ∈ occ.getD (y + m).toNat []
 small:∀ j,(occ.getD j []).length ≤ 1700000
theorem Zmb {α:Type} {l:List α} {x:α} (h:l.length ≤ 4000000):app? l [x] = some (l ++ [x]):=by
 unfold app? room; rw [ZnC (by simp; omega)]
theorem ZcU {l:List (List Int)} {i j:Nat} {v:List Int} (h:i < l.length):(l.set i v).getD j [] = if j = i then v else l.getD j []:=by
 rw [Zn8,ZoU,Zn8]
 by_cases e:i = j
 ·subst e; rw [ZnC rfl,ZnC h,ZnC rfl]; rfl
 ·rw [ZnA e,ZnA (Ne.symm e)]
theorem ZiQ {l:List (List Int)} {i:Nat} (h:i < l.length):l[i]? = some (l.getD i []):=by
 rw [Zn8,Zn5 h]; rfl
section
variable {f:D.Formula} {m:Nat} {S:Int → Prop} {occ:List (List Int)}
theorem ZkO {y:Int} (hm:m ≤ 400) (hl:isL m y):w64 (y + (m:Int)) = (((y + m).toNat:Nat):Int) ∧ (y + m).toNat < 2 * m + 1:=by
 obtain ⟨l0,l1⟩:=hl
 rw [Ze (by omega) (by omega)]; omega
structure OccK (f:D.Formula) (m k:Nat) (pre:List Int) (occ:List (List Int)):Prop where
 len:occ.length = 2 * m + 1
 val:∀ j,∀ i ∈ occ.getD j [],0 ≤ i ∧ i < (f.Clauses.length:Int)
 all:∀ (i:Nat) (c:List Int),i < k → f.Clauses[i]? = some c → ∀ y ∈ c,(i:Int) ∈ occ.getD (y + m).toNat []
 cur:∀ y ∈ pre,(k:Int) ∈ occ.getD (y + m).toNat []
 small:∀ j,(occ.getD j []).length ≤ 1000 * k + pre.length
theorem Zj6 (hf:FmP f m) {k:Nat} {c:List Int} (hk:f.Clauses[k]? = some c) (h:OccK f m k [] occ) {n:Nat} (hn:4000000 ≤ n):∃ occ',iterN (fun (s2:Int × (List (List Int)))=>
    if (decide (s2.1 < (len c))) then
     (get? c s2.1).bind fun x3=>
     (get? s2.2 (w64 (x3 + f.Vars))).bind fun x4=>
     (app? x4 ([(k:Int)]:List Int)).bind fun x5=>
     (set? s2.2 (w64 (x3 + f.Vars)) x5).bind fun x6=>
     some (.inl ((w64 (s2.1 + 1)),x6))
    else
     some (.inr (s2.2))) n (0,occ) = some occ' ∧ OccK f m k c occ':=by
  have hcl:=hf.cl c (ZnN hk)
  have hkl:k < f.Clauses.length:=(Zn9.1 hk).1
  have hnum:=hf.num
  obtain ⟨r,g1,g2⟩:=Yk (l:=c) (n:=n) (σ:=List (List Int)) (ρ:=List (List Int)) (B:=fun (s2:Int × (List (List Int)))=>
    if (decide (s2.1 < (len c))) then
     (get? c s2.1).bind fun x3=>
     (get? s2.2 (w64 (x3 + f.Vars))).bind fun x4=>
     (app? x4 ([(k:Int)]:List Int)).bind fun x5=>
     (set? s2.2 (w64 (x3 + f.Vars)) x5).bind fun x6=>
     some (.inl ((w64 (s2.1 + 1)),x6))
    else
     some (.inr (s2.2))) (fun j a=>((j:Int),a)) (fun ys a=>∃ pre,pre ++ ys = c ∧ OccK f m k pre a) (fun r=>OccK f m k c r)
    (fun j y ys a hj hy hl ⟨pre,h1,h2⟩=>by
      have hd:decide ((j:Int) < len c) = true:=by rw [Za]; simp; omega
      have hly:=hcl.1.lit y (ZnN hy)
      have hk1:w64 ((j:Int) + 1) = ((j + 1:Nat):Int):=by rw [Ze (by omega) (by omega)]; rfl
      obtain ⟨e1,e2⟩:=ZkO hf.small hly
      have hpl:pre.length ≤ c.length:=by rw [← h1]; simp
      have hsm:=h2.small (y + m).toNat
      simp only [hd,ZnV,get?_nat,hy,Zn4]
      rw [hf.vars,e1,get?_nat,ZiQ (by rw [h2.len]; exact e2)]
      simp only [Zn4]
      rw [Zmb (by omega)]
      simp only [Zn4]
      have hst:set? a (((y + m).toNat:Nat):Int) (a.getD (y + m).toNat [] ++ [(k:Int)]) = some (a.set (y + m).toNat (a.getD (y + m).toNat [] ++ [(k:Int)])):=by
        unfold set?
        rw [ZnC ⟨by omega,by have:=h2.len; rw [Zoo]; omega⟩,Zoo]
      rw [hst]
      have hlt:(y + m).toNat < a.length:=by rw [h2.len]; exact e2
      have hmem:∀ j' i,i ∈ a.getD j' [] → i ∈ (a.set (y + m).toNat (a.getD (y + m).toNat [] ++ [(k:Int)])).getD j' []:=fun j' i hi=>by
        rw [ZcU hlt]
        split
        · rename_i e; subst e; exact ZpM _ hi
        · exact hi
      refine .inl ⟨_,by simp only [Zn4,hk1],pre ++ [y],by rw [Zoh]; exact h1,?_,fun j' i hi=>?_,fun i d hi hd' z hz=>hmem _ _ (h2.all i d hi hd' z hz),fun z hz=>?_,fun j'=>?_⟩
      · rw [Zqc]; exact h2.len
      · rw [ZcU hlt] at hi
        split at hi
        · rcases ZnS.1 hi with hi | hi
          · exact h2.val _ i hi
          · rw [ZnX] at hi; subst hi; omega
        · exact h2.val _ i hi
      · rcases ZnS.1 hz with hz | hz
        · exact hmem _ _ (h2.cur z hz)
        · rw [ZnX] at hz; subst hz
          rw [ZcU hlt,ZnC rfl]; simp
      · have e : (pre ++ [y]).length = pre.length + 1 := by simp
        have h3:=h2.small j'
        rw [ZcU hlt,e]
        split
        · rw [ZnD,Zpl]; omega
        · omega)
    (fun a ⟨pre,h1,h2⟩=>by
      have hd:decide ((c.length:Int) < len c) = false:=by rw [Za]; simp
      simp only [hd,Zn6,ZnI]
      rw [Zoz] at h1
      subst h1
      exact ⟨_,rfl,h2⟩) (a:=occ) ⟨[],rfl,h⟩ (by omega)
  exact ⟨r,g1,g2⟩
theorem ZhM {α:Type} {k:Nat} {z:α} (h:k ≤ 100000):mk? (k:Int) z = some (List.replicate k z):=by
 unfold mk? room
 rw [ZnC (by omega)]; simp
theorem ZhY (hf:FmP f m) {n:Nat} (hn:4000000 ≤ n):∃ occ,Xq n f = some ⟨f,occ⟩ ∧ OccP f m occ:=by
  have hnum:=hf.num
  have hm:=hf.small
  have e0:w64 (w64 (2 * f.Vars) + 1) = ((2 * m + 1:Nat):Int):=by rw [hf.vars,Ze (x:=2 * (m:Int)) (by omega) (by omega),Ze (by omega) (by omega)]; omega
  have hgl:∀ j,(List.replicate (2 * m + 1) ([]:List Int)).getD j [] = []:=fun j=>by
    rw [Zn8,ZoZ]
    split <;> rfl
  obtain ⟨r,g1,g2⟩:=Yk (l:=f.Clauses) (n:=n) (σ:=List (List Int)) (ρ:=List (List Int)) (B:=fun (s1:Int × (List (List Int)))=>
  if (decide (s1.1 < (len f.Clauses))) then
   (get? f.Clauses s1.1).bind fun x2 =>
   (iterN (fun (s2 : Int × (List (List Int))) =>
    if (decide (s2.1 < (len x2))) then
     (get? x2 s2.1).bind fun x3=>
     (get? s2.2 (w64 (x3 + f.Vars))).bind fun x4=>
     (app? x4 ([s1.1]:List Int)).bind fun x5=>
     (set? s2.2 (w64 (x3 + f.Vars)) x5).bind fun x6=>
     some (.inl ((w64 (s2.1 + 1)),x6))
    else
     some (.inr (s2.2))
   ) n (0,s1.2)).bind fun (rl2:(List (List Int)))=>
   some (.inl ((w64 (s1.1 + 1)),rl2))
  else
   some (.inr (s1.2))) (fun j a=>((j:Int),a)) (fun ys a=>∃ k,k + ys.length = f.Clauses.length ∧ OccK f m k [] a) (fun r=>OccK f m f.Clauses.length [] r)
    (fun j c xs a hj hx hl ⟨k,h1,h2⟩=>by
      have hd:decide ((j:Int) < len f.Clauses) = true:=by rw [Za]; simp; omega
      have hkj:k = j:=by omega
      subst hkj
      have hk1:w64 ((k:Int) + 1) = ((k + 1:Nat):Int):=by rw [Ze (by omega) (by omega)]; rfl
      have hcl:=hf.cl c (ZnN hx)
      obtain ⟨o',q1,q2⟩:=Zj6 hf hx h2 hn
      simp only [hd,ZnV,get?_nat,hx,Zn4]
      rw [q1]
      refine .inl ⟨o',by simp only [Zn4,hk1],k + 1,by simp at h1; omega,q2.len,q2.val,fun i d hi hd' y hy=>?_,fun y hy=>(by cases hy),fun j'=>?_⟩
      · by_cases e : i = k
        · subst e
          rw [hx] at hd'
          cases hd'
          exact q2.cur y hy
        · exact q2.all i d (by omega) hd' y hy
      · have h3 := q2.small j'
        have h4:=hcl.2
        have e:([]:List Int).length = 0:=rfl
        rw [e]; omega)
    (fun a ⟨k,h1,h2⟩=>by
      have hd:decide ((f.Clauses.length:Int) < len f.Clauses) = false:=by rw [Za]; simp
      simp only [hd,Zn6,ZnI]
      have:k = f.Clauses.length:=by simpa using h1
      subst this
      exact ⟨_,rfl,h2⟩) (a:=List.replicate (2 * m + 1) []) ⟨0,by simp,by simp,fun j i hi=>(by rw [hgl] at hi; cases hi),fun i c hi=>(by omega),fun y hy=>(by cases hy),fun j=>(by rw [hgl]; simp)⟩ (by omega)
  refine ⟨r,?_,g2.len,g2.val,fun i c hc y hy=>g2.all i c (Zn9.1 hc).1 hc y hy,fun j=>?_⟩
  · unfold Xq
    rw [e0,ZhM (by omega)]
    simp only [Zn4]
    rw [show ((0:Nat):Int) = 0 from rfl] at g1
    rw [g1]; rfl
  · have h3 := g2.small j
    have e:([]:List Int).length = 0:=rfl
    rw [e] at h3; omega
theorem Zlu (hf:FmP f m) (hS:∀ x,S x → isL m x) (ho:OccP f m occ) {n:Nat} (hn:4000000 ≤ n):∀ (M:Nat) (a q:List Int) (k:Nat),q.length + 2 * zer a ≤ M → Wq m f.Clauses S a q → (∀ d ∈ f.Clauses,good a d ∨ pend a q d) → M + 1 ≤ k → ∃ r,iterN (fun (s1:(List Int) × (List Int))=>
  if (decide ((len s1.2) > 0)) then
   (get? s1.2 (w64 ((len s1.2) - 1))).bind fun x1=>
   (cut? s1.2 0 (w64 ((len s1.2) - 1))).bind fun x2=>
   (get? occ (w64 (f.Vars - x1))).bind fun x3 =>
   (iterN (fun (s2 : Int × (List Int) × (List Int)) =>
    if (decide (s2.1 < (len x3))) then
     (get? x3 s2.1).bind fun x4=>
     (get? f.Clauses x4).bind fun x5=>
     (Zm n (D.assignment.mk s2.2.1 s2.2.2) x5).bind fun x6=>
     if (!x6.1) then
      some (.inr (.inr (false,x6.2)))
     else
      some (.inl ((w64 (s2.1 + 1)),x6.2.val,x6.2.queue))
    else
     some (.inr (.inl (s2.2.1,s2.2.2)))
   ) n (0,s1.1,x2)).bind fun (rl2:((List Int) × (List Int)) ⊕ (Bool × D.assignment))=>
   match rl2 with
   | .inl s2r=>
    some (.inl (s2r.1,s2r.2))
   | .inr v=>some (.inr (.inr v))
  else
   some (.inr (.inl (s1.1,s1.2))):(List Int) × (List Int) → Option (((List Int) × (List Int)) ⊕ (((List Int) × (List Int)) ⊕ (Bool × D.assignment)))) k (a,q) = some r ∧ ((∃ a',r = .inl (a',[]) ∧ Okc m f.Clauses S a') ∨ ∃ x,r = .inr (false,x) ∧ Bad f.Clauses S):=by
  intro M
  induction M with
  | zero =>
    intro a q k hM hw hJ hk
    have hq:q = []:=ZoJ (by omega)
    subst hq
    refine ⟨_,Y6 rfl (by omega),.inl ⟨a,rfl,hw.way.asg,hw.way.ext,hw.way.snd,fun d hd=>?_⟩⟩
    rcases hJ d hd with h | ⟨x,_,_,h⟩
    · exact h
    · cases h
  | succ M ih =>
    intro a q k hM hw hJ hk
    obtain ⟨k,rfl⟩ : ∃ j,k = j + 1:=⟨k - 1,by omega⟩
    rcases List.eq_nil_or_concat q with rfl | ⟨q0,l,rfl⟩
    · refine ⟨_, Y6 rfl (by omega), .inl ⟨a, rfl, hw.way.asg, hw.way.ext, hw.way.snd, fun d hd => ?_⟩⟩
      rcases hJ d hd with h | ⟨x,_,_,h⟩
      · exact h
      · cases h
    · have hlen := hw.len
      rw [List.concat_eq_append] at *
      rw [ZnD] at hlen hM
      simp only [Zpl] at hlen hM
      obtain ⟨hl,hl1⟩:=hw.tru l (by simp)
      have hln:isL m (-l):=⟨by have:=hl.1; omega,by rw [Zqu]; exact hl.2⟩
      have e1:w64 (len (q0 ++ [l]) - 1) = (q0.length:Int):=by rw [Za,ZnD]; simp; exact Ze (by omega) (by omega)
      have e2:get? (q0 ++ [l]) (q0.length:Int) = some l:=by rw [get?_nat,ZnH (ZnK _)]; simp
      have e3:cut? (q0 ++ [l]) 0 (q0.length:Int) = some q0:=by
        unfold cut?
        rw [ZnC ⟨ZoD _,by omega,by rw [ZnD,Zpl]; omega⟩,Zoo]; simp
      obtain ⟨x1,x2⟩:=ZkO hf.small hln
      have e4:get? occ (w64 (f.Vars - l)) = some (occ.getD (-l + m).toNat []):=by
        rw [hf.vars,show ((m:Int) - l) = -l + m by omega,x1,get?_nat,ZiQ (by rw [ho.len]; exact x2)]
      have hgt:decide (len (q0 ++ [l]) > 0) = true:=by rw [Za]; exact decide_eq_true (by rw [ZnD,Zpl]; omega)
      have hw0:Wq m f.Clauses S a q0:=⟨hw.way,fun y hy=>hw.tru y (ZpM _ hy),by omega⟩
      have hsm:=ho.small (-l + m).toNat
      obtain ⟨r,g1,g2⟩:=Yk (l:=occ.getD (-l + m).toNat []) (n:=n) (σ:=List Int × List Int) (ρ:=((List Int) × (List Int)) ⊕ (Bool × D.assignment)) (B:=fun (s2:Int × (List Int) × (List Int))=>
    if (decide (s2.1 < (len (occ.getD (-l + m).toNat [])))) then
     (get? (occ.getD (-l + m).toNat []) s2.1).bind fun x4=>
     (get? f.Clauses x4).bind fun x5=>
     (Zm n (D.assignment.mk s2.2.1 s2.2.2) x5).bind fun x6=>
     if (!x6.1) then
      some (.inr (.inr (false,x6.2)))
     else
      some (.inl ((w64 (s2.1 + 1)),x6.2.val,x6.2.queue))
    else
     some (.inr (.inl (s2.2.1,s2.2.2)))) (fun j z=>((j:Int),z.1,z.2))
        (fun ys z=>Wq m f.Clauses S z.1 z.2 ∧ z.2.length + 2 * zer z.1 ≤ M ∧ ∀ d ∈ f.Clauses,(∃ i ∈ ys,f.Clauses[i.toNat]? = some d) ∨ good z.1 d ∨ pend z.1 z.2 d)
        (fun r=>(∃ z,r = .inl z ∧ Wq m f.Clauses S z.1 z.2 ∧ z.2.length + 2 * zer z.1 ≤ M ∧ ∀ d ∈ f.Clauses,good z.1 d ∨ pend z.1 z.2 d) ∨ ∃ x,r = .inr (false,x) ∧ Bad f.Clauses S)
        (fun j i ys z hj hi hl' ⟨i1,i2,i3⟩=>by
          have hd:decide ((j:Int) < len (occ.getD (-l + m).toNat [])) = true:=by rw [Za]; exact decide_eq_true (by omega)
          have hk1:w64 ((j:Int) + 1) = ((j + 1:Nat):Int):=by rw [Ze (by omega) (by omega)]; rfl
          have hiv:=ho.val _ i (ZnN hi)
          have hic:f.Clauses[i.toNat]? = some f.Clauses[i.toNat]:=Zn5 (by omega)
          have hg:get? f.Clauses i = some f.Clauses[i.toNat]:=by unfold get?; rw [ZnC hiv.1]; exact hic
          simp only [hd,ZnV,get?_nat,hi,Zn4]
          rw [hg]
          simp only [Zn4]
          rcases Zfp hf hS i1 (Zoq (show i.toNat < f.Clauses.length by omega)) (fun d=>(∃ i ∈ ys,f.Clauses[i.toNat]? = some d) ∨ d = f.Clauses[i.toNat]) (fun d hd'=>by
            rcases i3 d hd' with ⟨i',h1,h2⟩ | h | h
            · rcases Zof.1 h1 with rfl | h1
              · rw [hic] at h2; exact .inl (.inr (Option.some.inj h2).symm)
              · exact .inl (.inl ⟨i',h1,h2⟩)
            · exact .inr (.inl h)
            · exact .inr (.inr h)) (n:=n) (by omega) with ⟨h1,h2⟩ | ⟨a',q',h1,h2,h3,h4,h5⟩
          · rw [h1]
            exact .inr ⟨_,rfl,.inr ⟨_,rfl,h2⟩⟩
          · rw [h1]
            refine .inl ⟨(a',q'),by simp only [Zn4,hk1]; rfl,h2,by simp only; omega,fun d hd'=>?_⟩
            rcases h5 d hd' with (h | h) | h | h
            · exact .inl h
            · exact .inr (.inl (h ▸ h4))
            · exact .inr (.inl h)
            · exact .inr (.inr h))
        (fun z ⟨i1,i2,i3⟩=>by
          have hd:decide (((occ.getD (-l + m).toNat []).length:Int) < len (occ.getD (-l + m).toNat [])) = false:=by rw [Za]; simp
          simp only [hd,Zn6,ZnI]
          refine ⟨_,rfl,.inl ⟨z,rfl,i1,i2,fun d hd'=>?_⟩⟩
          rcases i3 d hd' with ⟨i',h1,_⟩ | h
          · cases h1
          · exact h) (a := (a, q0)) ⟨hw0, by simp only; omega, fun d hd' => by
            rcases hJ d hd' with h | ⟨x,hx,hx1,hx2⟩
            · exact .inr (.inl h)
            · rcases ZnS.1 hx2 with h | h
              · exact .inr (.inr ⟨x,hx,hx1,h⟩)
              · rw [ZnX] at h
                obtain ⟨i,hi⟩:=Zpz hd'
                have hxl:x = -l:=by omega
                exact .inl ⟨(i:Int),ho.all i d hi (-l) (hxl ▸ hx),by simpa using hi⟩⟩ (by omega)
      rw [show ((0:Nat):Int) = 0 from rfl] at g1
      rcases g2 with ⟨z,rfl,h1,h2,h3⟩ | ⟨x,rfl,h1⟩
      · obtain ⟨r', q1, q2⟩ := ih z.1 z.2 k (by omega) h1 h3 (by omega)
        refine ⟨r',?_,q2⟩
        rw [Zcv (s':=(z.1,z.2)) (by
          simp only [hgt,ZnV,e1,e2,e3,Zn4]
          rw [e4]
          simp only [Zn4]
          rw [g1]; rfl)]
        exact q1
      · refine ⟨_,Y6 (r:=.inr (false,x)) (by
          simp only [hgt,ZnV,e1,e2,e3,Zn4]
          rw [e4]
          simp only [Zn4]
          rw [g1]; rfl) (by omega),.inr ⟨x,rfl,h1⟩⟩
end
section
variable {f:D.Formula} {m:Nat} {S:Int → Prop} {occ:List (List Int)}
theorem Zeh {cs:List (List Int)} {a:List Int} (hA:Asg m a):Way m cs (Sv m a) a:=⟨hA,fun _ hx=>hx.2,fun _ h1 h2=>.base ⟨h1,h2⟩⟩
theorem ZfG {a:List Int}:∀ x,Sv m a x → isL m x:=fun _ h=>h.1
theorem FmP.cls (hf:FmP f m):∀ c ∈ f.Clauses,ClM m c:=fun c hc=>(hf.cl c hc).1
noncomputable def clo (m:Nat) (cs:List (List Int)) (v:List Int):Option (List Int):=open Classical in if h:∃ a,Okc m cs (Sv m v) a then some h.choose else none
theorem Zh6 {cs:List (List Int)} (hcs:∀ c ∈ cs,ClM m c) {v a:List Int} (h:Okc m cs (Sv m v) a):clo m cs v = some a:=by
 have hx:∃ a,Okc m cs (Sv m v) a:=⟨a,h⟩
 unfold clo
 rw [dif_pos hx,ZjU hcs hx.choose_spec h]
theorem ZfS {cs:List (List Int)} (hcs:∀ c ∈ cs,ClM m c) {v:List Int} (h:Bad cs (Sv m v)):clo m cs v = none:=by
 unfold clo
 rw [dif_neg (fun ⟨a,ha⟩=>Zgf hcs ha h)]
theorem ZaG {cs:List (List Int)} {v a:List Int} (h:clo m cs v = some a):Okc m cs (Sv m v) a:=by
 unfold clo at h
 split at h
 ·rename_i hx; rw [← Option.some.inj h]; exact hx.choose_spec
 ·cases h
theorem Zg8 (hf:FmP f m) (hS:∀ x,S x → isL m x) (ho:OccP f m occ) {n:Nat} (hn:4000000 ≤ n) {a q:List Int} (hw:Wq m f.Clauses S a q) (hJ:∀ d ∈ f.Clauses,good a d ∨ pend a q d) :
  ∃ b a',ZK n ⟨f,occ⟩ ⟨a,q⟩ = some (b,a') ∧ ((b = true ∧ a'.queue = [] ∧ Okc m f.Clauses S a'.val) ∨ (b = false ∧ Bad f.Clauses S)):=by
 have hz:=hw.len
 obtain ⟨r,g1,g2⟩:=Zlu hf hS ho hn (q.length + 2 * zer a) a q n (ZnK _) hw hJ (by omega)
 have G:∀ z,r = z → ZK n ⟨f,occ⟩ ⟨a,q⟩ = (match z with | .inl s1r=>some (true,(D.assignment.mk s1r.1 s1r.2)) | .inr v=>some v):=fun z e=>by
  subst e
  unfold ZK
  exact congrArg (fun o=>Option.bind o (fun (rl1:((List Int) × (List Int)) ⊕ (Bool × D.assignment))=>match rl1 with | .inl s1r=>some (true,(D.assignment.mk s1r.1 s1r.2)) | .inr v=>some v)) g1
 rcases g2 with ⟨a',e,h⟩ | ⟨x,e,h⟩
 ·exact ⟨true,⟨a',[]⟩,G _ e,.inl ⟨rfl,rfl,h⟩⟩
 ·exact ⟨false,x,G _ e,.inr ⟨rfl,h⟩⟩
theorem ZlR {l:List Int} (h:l.length ≤ 1000000):Zc l = some l:=by
 unfold Zc app? room
 rw [ZnC (by simp; omega)]; rfl
theorem Zj2 (hf:FmP f m) (ho:OccP f m occ) {n:Nat} (hn:4000000 ≤ n) {a q:List Int} {l:Int} (hA:Asg m a) (hg:∀ c ∈ f.Clauses,good a c) (hl:isL m l) (h0:lv a l = 0) :
  ∃ a' b,Zr n ⟨f,occ⟩ ⟨a,q⟩ l = some (a',b) ∧ ((b = true ∧ a'.queue = [] ∧ clo m f.Clauses (stA a l) = some a'.val) ∨ (b = false ∧ clo m f.Clauses (stA a l) = none)):=by
 have hm:=hf.small
 have hz:=Zli hA
 have hz1:=Zdd hA hl h0
 have hA1:=ZdW hA hl
 have hw:Wq m f.Clauses (Sv m (stA a l)) (stA a l) [l]:=⟨Zeh hA1,fun y hy=>by
  rw [ZnX] at hy; subst hy
  exact ⟨hl,by rw [Za9 hA.len hl hl.1,ZnC rfl]⟩,by simp; omega⟩
 obtain ⟨b,a',h1,h2⟩:=Zg8 hf ZfG ho hn hw fun d hd=>by
  rcases Zgq hA hl h0 (hf.cl d hd).1 (hg d hd) with h | h
  ·exact .inl h
  ·exact .inr ⟨-l,h,by rw [ZaF hl.1,Za9 hA.len hl hl.1,ZnC rfl],by simp⟩
 unfold Zr
 rw [ZlR (l:=a) (by have:=hA.len; omega)]
 simp only [Zn4]
 rw [ZgW hA hm hl h0 (by simp)]
 simp only [Zn4,ZnY,Zn6,ZnI,Zq1]
 rw [h1]
 simp only [Zn4]
 rcases h2 with ⟨rfl,h3,h4⟩ | ⟨rfl,h3⟩
 ·exact ⟨a',true,rfl,.inl ⟨rfl,h3,Zh6 hf.cls h4⟩⟩
 ·exact ⟨default,false,rfl,.inr ⟨rfl,ZfS hf.cls h3⟩⟩
theorem zeros_asg (m:Nat):Asg m (List.replicate (m + 1) 0):=by
 have h:∀ i,(List.replicate (m + 1) (0:Int)).getD i 0 = 0:=fun i=>by
  rw [Zn8,ZoZ]
  split <;> rfl
 exact ⟨by simp,fun i=>by rw [h]; omega,h 0⟩
theorem start_eq (hf:FmP f m) (ho:OccP f m occ) {n:Nat} (hn:4000000 ≤ n) :
    ∃ a' b,Y0 n ⟨f,occ⟩ [] = some (a',b) ∧ ((b = true ∧ a'.queue = [] ∧ clo m f.Clauses (List.replicate (m + 1) 0) = some a'.val) ∨ (b = false ∧ clo m f.Clauses (List.replicate (m + 1) 0) = none)):=by
  have hm:=hf.small
  have hnum:=hf.num
  have hA:=zeros_asg m
  have hz:=Zli hA
  have e0:w64 (f.Vars + 1) = ((m + 1:Nat):Int):=by rw [hf.vars,Ze (by omega) (by omega)]; rfl
  have hw:Wq m f.Clauses (Sv m (List.replicate (m + 1) 0)) (List.replicate (m + 1) 0) []:=⟨Zeh hA,fun y hy=>(by cases hy),by rw [Zom]; omega⟩
  obtain ⟨r,g1,g2⟩:=Yk (l:=f.Clauses) (n:=n) (σ:=List Int × List Int) (ρ:=((List Int) × (List Int)) ⊕ (D.assignment × Bool)) (B:=fun (s2:Int × (List Int) × (List Int))=>
   if (decide (s2.1 < (len f.Clauses))) then
    (get? f.Clauses s2.1).bind fun x4=>
    (Zm n (D.assignment.mk s2.2.1 s2.2.2) x4).bind fun x5=>
    if (!x5.1) then
     some (.inr (.inr (default,false)))
    else
     some (.inl ((w64 (s2.1 + 1)),x5.2.val,x5.2.queue))
   else
    some (.inr (.inl (s2.2.1,s2.2.2)))) (fun j z=>((j:Int),z.1,z.2))
    (fun ys z=>Wq m f.Clauses (Sv m (List.replicate (m + 1) 0)) z.1 z.2 ∧ ∀ d ∈ f.Clauses,d ∈ ys ∨ good z.1 d ∨ pend z.1 z.2 d)
    (fun r=>(∃ z,r = .inl z ∧ Wq m f.Clauses (Sv m (List.replicate (m + 1) 0)) z.1 z.2 ∧ ∀ d ∈ f.Clauses,good z.1 d ∨ pend z.1 z.2 d) ∨ r = .inr (default,false) ∧ Bad f.Clauses (Sv m (List.replicate (m + 1) 0)))
    (fun j c ys z hj hx hl ⟨i1,i2⟩=>by
      have hd:decide ((j:Int) < len f.Clauses) = true:=by rw [Za]; exact decide_eq_true (by omega)
      have hk1:w64 ((j:Int) + 1) = ((j + 1:Nat):Int):=by rw [Ze (by omega) (by omega)]; rfl
      simp only [hd,ZnV,get?_nat,hx,Zn4]
      rcases Zfp hf ZfG i1 (ZnN hx) (fun d=>d ∈ ys ∨ d = c) (fun d hd'=>by
        rcases i2 d hd' with h | h | h
        · rcases Zof.1 h with h | h
          · exact .inl (.inr h)
          · exact .inl (.inl h)
        · exact .inr (.inl h)
        · exact .inr (.inr h)) (n:=n) (by omega) with ⟨h1,h2⟩ | ⟨a',q',h1,h2,h3,h4,h5⟩
      · rw [h1]
        exact .inr ⟨_,rfl,.inr ⟨rfl,h2⟩⟩
      · rw [h1]
        refine .inl ⟨(a',q'),by simp only [Zn4,hk1]; rfl,h2,fun d hd'=>?_⟩
        rcases h5 d hd' with (h | h) | h | h
        · exact .inl h
        · exact .inr (.inl (h ▸ h4))
        · exact .inr (.inl h)
        · exact .inr (.inr h))
    (fun z ⟨i1,i2⟩=>by
      have hd:decide ((f.Clauses.length:Int) < len f.Clauses) = false:=by rw [Za]; simp
      simp only [hd,Zn6,ZnI]
      refine ⟨_,rfl,.inl ⟨z,rfl,i1,fun d hd'=>?_⟩⟩
      rcases i2 d hd' with h | h
      · cases h
      · exact h) (a:=(List.replicate (m + 1) 0,[])) ⟨hw,fun d hd=>.inl hd⟩ (by omega)
  rw [show ((0:Nat):Int) = 0 from rfl] at g1
  have hl0:iterN (fun (s1:Int × (List Int) × (List Int))=>
  if (decide (s1.1 < (len ([]:List Int)))) then
   (get? ([]:List Int) s1.1).bind fun x2=>
   (Z4 (D.assignment.mk s1.2.1 s1.2.2) x2).bind fun x3=>
   if (!x3.1) then
    some (.inr (.inr ((default:D.assignment),false)))
   else
    some (.inl ((w64 (s1.1 + 1)),x3.2.val,x3.2.queue))
  else
   some (.inr (.inl (s1.2.1,s1.2.2))):Int × (List Int) × (List Int) → Option ((Int × (List Int) × (List Int)) ⊕ (((List Int) × (List Int)) ⊕ (D.assignment × Bool)))) n (0,List.replicate (m + 1) 0,[]) = some (.inl (List.replicate (m + 1) 0,[])):=Y6 rfl (by omega)
  have G:∀ z,r = z → Y0 n ⟨f,occ⟩ [] = (match z with
    | .inl s2r=>(ZK n ⟨f,occ⟩ (D.assignment.mk s2r.1 s2r.2)).bind fun x6=>if (!x6.1) then some (default,false) else some (x6.2,true)
    | .inr v=>some v):=fun z e=>by
    subst e
    unfold Y0
    rw [e0,ZhM (by omega)]
    simp only [Zn4]
    refine (congrArg (fun o=>Option.bind o _) hl0).trans ?_
    exact congrArg (fun o=>Option.bind o (fun (rl2:((List Int) × (List Int)) ⊕ (D.assignment × Bool))=>match rl2 with
    | .inl s2r=>(ZK n ⟨f,occ⟩ (D.assignment.mk s2r.1 s2r.2)).bind fun x6=>if (!x6.1) then some (default,false) else some (x6.2,true)
    | .inr v=>some v)) g1
  rcases g2 with ⟨z,e,h1,h2⟩ | ⟨e,h⟩
  · obtain ⟨b, a', k1, k2⟩ := Zg8 hf ZfG ho hn h1 h2
    have G:=G _ e
    simp only at G
    rw [k1] at G
    rcases k2 with ⟨rfl,k3,k4⟩ | ⟨rfl,k3⟩
    · exact ⟨a',true,G,.inl ⟨rfl,k3,Zh6 hf.cls k4⟩⟩
    · exact ⟨default,false,G,.inr ⟨rfl,ZfS hf.cls k3⟩⟩
  · exact ⟨default,false,G _ e,.inr ⟨rfl,ZfS hf.cls h⟩⟩
def LF (a:List Int) (v:Nat):Prop:=(v = 0 ∧ ∀ i,1 ≤ i → i < a.length → a.getD i 0 ≠ 0) ∨ (1 ≤ v ∧ v < a.length ∧ a.getD v 0 = 0 ∧ ∀ i,1 ≤ i → i < v → a.getD i 0 ≠ 0)
theorem LF.uniq {a:List Int} {v w:Nat} (h:LF a v) (h':LF a w):v = w:=by
 rcases h with ⟨h1,h2⟩ | ⟨h1,h2,h3,h4⟩ <;> rcases h' with ⟨k1,k2⟩ | ⟨k1,k2,k3,k4⟩
 ·omega
 ·exact absurd k3 (h2 w k1 k2)
 ·exact absurd h3 (k2 v h1 h2)
 ·by_cases e : v < w
  ·exact absurd h3 (k4 v h1 e)
  ·by_cases e' : w < v
   ·exact absurd k3 (h4 w k1 e')
   ·omega
theorem Ziv {a q:List Int} {n:Nat} (hl:1 ≤ a.length ∧ a.length ≤ 1000) (hn:2000 ≤ n):∃ v:Nat,LF a v ∧ ZI n ⟨a,q⟩ = some (v:Int):=by
  have key:∀ (d i k:Nat),i + d = a.length → 1 ≤ i → (∀ j,1 ≤ j → j < i → a.getD j 0 ≠ 0) → d < k → ∃ r:Unit ⊕ Int,iterN (fun (s1:Int)=>
  if (decide (s1 < (len a))) then
   (get? a s1).bind fun x1=>
   if (x1 == 0) then
    some (.inr (.inr s1))
   else
    some (.inl ((w64 (s1 + 1))))
  else
   some (.inr (.inl ()))) k (i:Int) = some r ∧ ((r = .inl () ∧ LF a 0) ∨ ∃ v:Nat,r = .inr (v:Int) ∧ LF a v):=by
    intro d
    induction d with
    | zero =>
      intro i k hi h1 hp hk
      have hd:decide ((i:Int) < len a) = false:=by rw [Za]; exact decide_eq_false (by omega)
      exact ⟨.inl (),Y6 (by simp only [hd,Zn6,ZnI]) (by omega),.inl ⟨rfl,.inl ⟨rfl,fun j hj hj'=>hp j hj (by omega)⟩⟩⟩
    | succ d ih =>
      intro i k hi h1 hp hk
      obtain ⟨k,rfl⟩ : ∃ j,k = j + 1:=⟨k - 1,by omega⟩
      have hd:decide ((i:Int) < len a) = true:=by rw [Za]; exact decide_eq_true (by omega)
      have hg:get? a (i:Int) = some (a.getD i 0):=by rw [get?_nat,Za0 (by omega)]
      by_cases h0:a.getD i 0 = 0
      · exact ⟨.inr (i:Int),Y6 (by simp only [hd,ZnV,hg,Zn4]; rw [ZnC (by simpa using h0)]) (by omega),.inr ⟨i,rfl,.inr ⟨h1,by omega,h0,hp⟩⟩⟩
      · obtain ⟨r,q1,q2⟩:=ih (i + 1) k (by omega) (by omega) (fun j hj hj'=>by
          by_cases e:j = i
          · subst e; exact h0
          · exact hp j hj (by omega)) (by omega)
        refine ⟨r,?_,q2⟩
        rw [Zcv (s':=((i + 1:Nat):Int)) (by
          simp only [hd,ZnV,hg,Zn4]
          rw [ZnA (by simpa using h0),Ze (by omega) (by omega)]; rfl)]
        exact q1
  obtain ⟨r,g1,g2⟩:=key (a.length - 1) 1 n (by omega) (by omega) (fun j hj hj'=>by omega) (by omega)
  have G:∀ z,r = z → ZI n ⟨a,q⟩ = (match z with | .inl _=>some 0 | .inr v=>some v):=fun z e=>by
    subst e
    unfold ZI
    exact congrArg (fun o=>Option.bind o (fun (rl1:Unit ⊕ Int)=>match rl1 with | .inl _=>some 0 | .inr v=>some v)) g1
  rcases g2 with ⟨e,h⟩ | ⟨v,e,h⟩
  · exact ⟨0,h,G _ e⟩
  · exact ⟨v,h,G _ e⟩
end
end Go.Proofs.YthlolmkdppfioaaGreat.Sv
end
