/- Texts of this claim put into one: library or plain laws, without the program under test. -/
import Derived.Test.YtlkojmondogmlaaGreatDoorLib3
import Derived.Test.YtlkojmondogmlaaGreatDoorDefs
import Derived.Lib.Strings
set_option linter.unusedSimpArgs false
set_option linter.unusedVariables false
section
namespace Go.Proofs.YtlkojmondogmlaaGreatDoor
open Go.GL
theorem Zf6 {l:List Int} {m:Int} (hl:l.length ≤ 9223372036854775807) (h0:0 ≤ m) (h1:m ≤ 1048576):ZaD l m = some (if m - l.length < 0 then -1 else m - l.length):=by
 unfold ZaD
 rw [Zg,Zk (by omega) (by omega)]
 by_cases h:m - (l.length:Int) < 0
 ·rw [Zl6 (by simpa using h),Zl6 h]
 ·rw [Zl7 (by simpa using h),Zl7 h]
def fuel:Nat:=4194400
theorem Yy {n:Nat} (h:n ≤ 1048576):n < fuel:=by unfold fuel; omega
theorem Zf8 {l:List Int} (h:l.length ≤ 1048576):ZaE fuel l = some l:=by
 unfold ZaE
 rw [mk?_len (by unfold room; omega)]
 simp only [Zlx]
 rw [ZeG (by omega) (Yy h)]
 rfl
theorem Zfz {p q:List Int} (h:p.length ≤ 1048576):Zbd fuel p q = some (decide (p = q)):=ZgJ (by omega) (Yy h)
theorem Zb4 {α:Type} {l:List α} {f:α → Option Bool} {b:α → Bool} (hf:∀ x ∈ l,f x = some (b x)) (hb:l.length ≤ 9223372036854775807):∀ (d i:Nat),i + d = l.length → ∀ n,d < n →
  iterN (fun (s1:Int)=>
   if (decide (s1 < (len l))) then
    (get? l s1).bind fun x1=>
    (f x1).bind fun x2=>
    if (!x2) then
     some (.inr (.inr false))
    else
     some (.inl ((w64 (s1 + 1))))
   else
    some (.inr (.inl ()))) n (i:Int) = some (if (l.drop i).all b then (.inl ():Unit ⊕ Bool) else .inr false)
 | 0,i,hi,n,hn=>by
  obtain ⟨n,rfl⟩ : ∃ j,n = j + 1:=⟨n - 1,by omega⟩
  unfold iterN
  rw [Zl7 (by rw [Zg]; simp; omega)]
  simp [Zm2 (show l.length ≤ i by omega)]
 | d + 1,i,hi,n,hn=>by
  obtain ⟨n,rfl⟩ : ∃ j,n = j + 1:=⟨n - 1,by omega⟩
  have hp:i < l.length:=by omega
  unfold iterN
  rw [Zl6 (by rw [Zg]; simp; omega),get?_nat,Zl1 hp]
  simp only [Zlx]
  rw [hf _ (Znu hp),ZlR hp]
  simp only [Zlx,Znc]
  by_cases h:b l[i] = true
  ·rw [Zl7 (by simp [h])]
   simp only
   rw [Zk (by omega) (by omega),show ((i:Int) + 1) = ((i + 1:Nat):Int) by omega,Zb4 hf hb d (i + 1) (by omega) n (by omega)]
   simp only [h,ZlV]
  ·rw [Zl6 (by simp [h])]
   simp [h]
theorem Zio {l:List D.Ins} {m:Int} (hl:l.length ≤ 9223372036854775807) (h0:0 ≤ m) (h1:m ≤ 1048576):Zbg l m = some (if m - l.length < 0 then -1 else m - l.length):=by
 unfold Zbg
 rw [Zg,Zk (by omega) (by omega)]
 by_cases h:m - (l.length:Int) < 0
 ·rw [Zl6 (by simpa using h),Zl6 h]
 ·rw [Zl7 (by simpa using h),Zl7 h]
theorem Zge {x:D.Program} {m:Int} (hx:Zcs x) (h0:0 ≤ m) (h1:m ≤ 1048576):∃ r,Zae x m = some r ∧ (r < 0 ∨ 0 ≤ r ∧ r ≤ 1048576 ∧ x.Code.length ≤ 1048576):=by
 obtain ⟨-,-,-,hr,-⟩:=hx
 unfold Zae
 rw [Zio hr h0 h1]
 simp only [Zlx]
 by_cases c1:m - (x.Code.length:Int) < 0
 ·rw [Zl6 c1]; exact ⟨_,rfl,.inl (by omega)⟩
 rw [Zl7 c1,Zl7 (by simpa using c1)]
 exact ⟨_,rfl,.inr ⟨by omega,by omega,by omega⟩⟩
theorem Zi0 {l:List D.Ins} (h:l.length ≤ 1048576):Zbj fuel l = some l:=by
 unfold Zbj
 rw [mk?_len (by unfold room; omega)]
 simp only [Zlx,Zci]
 rw [ZeG (by omega) (Yy h)]
 rfl
theorem Zga {x:D.Program} (h:x.Code.length ≤ 1048576):YM fuel x = some x:=by
 unfold YM
 rw [Zi0 h]
 rfl
theorem ZiL (x y:D.Ins):ZbA x y = some (decide (x = y)):=by
 unfold ZbA
 cases x; cases y
 simp only [D.Ins.mk.injEq]
 grind
theorem ZiB {p q:List D.Ins} (h:p.length ≤ 1048576):Zbm fuel p q = some (decide (p = q)):=by
 unfold Zbm
 simp only [ZiL,Zlx]
 exact ZgJ (by omega) (Yy h)
theorem ZeM {x:D.Program} (h:x.Code.length ≤ 1048576):Zaj fuel x x = some true:=by
 unfold Zaj
 rw [ZiB h]
 simp
theorem ZhC {w:Int} (h1:1 ≤ w) (h2:w ≤ 16):∃ m:Int,shl? 1 w = some m ∧ shl? 1 (IntKind.u64.wrap w) = some m ∧ w64 (m - 1) = m - 1:=by
 have:w = 1 ∨ w = 2 ∨ w = 3 ∨ w = 4 ∨ w = 5 ∨ w = 6 ∨ w = 7 ∨ w = 8 ∨ w = 9 ∨ w = 10 ∨ w = 11 ∨ w = 12 ∨ w = 13 ∨ w = 14 ∨ w = 15 ∨ w = 16:=by omega
 rcases this with rfl | rfl | rfl | rfl | rfl | rfl | rfl | rfl | rfl | rfl | rfl | rfl | rfl | rfl | rfl | rfl <;> exact ⟨_,rfl,by decide,by decide⟩
theorem ZdH (w v:Int):∃ b,ZF w v = some b ∧ ZO w v = some b:=by
 unfold ZF ZO Zm ZQ
 by_cases h:1 ≤ w ∧ w ≤ 16
 ·obtain ⟨m, h1, h2, h3⟩ := ZhC h.1 h.2
  refine ⟨decide (0 ≤ v) && decide (v < m),?_,?_⟩
  ·simp only [ge_iff_le, h.1, h.2, decide_true, ZmR, Zlx, ZlL, h1, h3, ZlV, Option.some.injEq]
   rw [ZmQ]
   simp only [Zl0,ZlB]
   omega
  ·by_cases hv : 0 ≤ v
   ·simp [h.1,h.2,hv,h2]
   ·simp [h.1,h.2,hv]
 ·refine ⟨false, ?_, ?_⟩
  ·by_cases a : 1 ≤ w
   ·have b : ¬ w ≤ 16 := fun b => h ⟨a, b⟩
    simp [a,b]
   ·simp [a]
  ·by_cases a : 1 ≤ w
   ·have b : ¬ w ≤ 16 := fun b => h ⟨a, b⟩
    simp [a,b]
   ·simp [a]
theorem ZbN {c:Bool} {b:Bool}:(if c = true then some b else some default) = some (if c = true then b else default):=by split <;> rfl
theorem Zd6 {c:Bool} {b:Bool}:(if c = true then some default else some b) = some (if c = true then default else b):=by split <;> rfl
theorem Zgz (p:D.Ins) (w n:Int):∃ b,X8 p w n = some b ∧ ZaA p w n = some b:=by
 obtain ⟨wb,hw1,hw2⟩:=ZdH w p.B
 have hr:∀ a,YK a = some (decide (0 ≤ a ∧ a ≤ 3)):=by
  intro a; simp [YK,Zm]
 have hr':∀ a,Xf a = some (decide (0 ≤ a ∧ a ≤ 3)):=by
  intro a; simp only [Xf,Bool.decide_and]; grind
 have hi:∀ a b c,Zm a b c = some (decide (b ≤ a) && decide (a ≤ c)):=by
  intro a b c; simp [Zm]
 have ht:∀ a,XN a = some (decide (3 ≤ a) && decide (a ≤ 16)):=by
  intro a; simp [XN]
 obtain ⟨op,a,b,c⟩:=p
 simp only at hw1 hw2
 unfold X8 ZaA
 simp only [hr,hr',hi,ht,hw1,hw2,Zlx,ZbN]
 by_cases e1:op = 1
 ·subst e1; grind
 by_cases e2:op = 2
 ·subst e2; grind
 by_cases e3:op = 3
 ·subst e3; grind
 by_cases e4:op = 4
 ·subst e4; grind
 by_cases e5:op = 5
 ·subst e5; grind
 by_cases e6:op = 6
 ·subst e6; grind
 by_cases e7:op = 7
 ·subst e7; grind
 by_cases e8:op = 8
 ·subst e8; grind
 by_cases e9:op = 9
 ·subst e9; grind
 by_cases e10:op = 10
 ·subst e10; grind
 by_cases e11:op = 11
 ·subst e11; grind
 by_cases e12:op = 12
 ·subst e12; grind
 by_cases e13:op = 13
 ·subst e13; grind
 by_cases e14:op = 14
 ·subst e14; grind
 simp [e1,e2,e3,e4,e5,e6,e7,e8,e9,e10,e11,e12,e13,e14]
def insB (w n:Int) (p:D.Ins):Bool:=(X8 p w n).getD false
theorem Zj3 (w n:Int) (p:D.Ins):X8 p w n = some (insB w n p):=by
 obtain ⟨b,h,-⟩:=Zgz p w n
 simp [insB,h]
theorem ZjM (w n:Int) (p:D.Ins):ZaA p w n = some (insB w n p):=by
 obtain ⟨b,h,h'⟩:=Zgz p w n
 simp [insB,h,h']
def wordB (w v:Int):Bool:=(ZF w v).getD false
theorem X0 (w v:Int):ZF w v = some (wordB w v):=by
 obtain ⟨b,h,-⟩:=ZdH w v
 simp [wordB,h]
theorem Zau (w v:Int):ZO w v = some (wordB w v):=by
 obtain ⟨b,h,h'⟩:=ZdH w v
 simp [wordB,h,h']
def progB (x:D.Program):Bool:=
 decide (2 ≤ x.W ∧ x.W ≤ 8) && decide (1 ≤ x.Mem ∧ x.Mem ≤ 6) && wordB x.W x.Mem && decide (0 ≤ x.In ∧ x.In ≤ 3) && decide (1 ≤ (x.Code.length:Int) ∧ (x.Code.length:Int) ≤ 40) && x.Code.all (insB x.W x.Code.length)
theorem Ziv {x:D.Program} (h:x.Code.length ≤ 1048576):Zao fuel x = some (progB x):=by
 unfold Zao
 have hi:∀ a b c,Zm a b c = some (decide (b ≤ a ∧ a ≤ c)):=by
  intro a b c; simp [Zm]
 have hl:=Zb4 (l:=x.Code) (f:=fun p=>X8 p x.W (len x.Code)) (b:=insB x.W x.Code.length) (fun p _=>Zj3 _ _ p) (by omega) x.Code.length 0 (by omega) fuel (Yy h)
 rw [show ((0:Nat):Int) = 0 from rfl] at hl
 simp only [hi,X0,Zlx,Zd6]
 rw [hl,Zg]
 unfold progB
 simp only [ZmH]
 cases x.Code.all (insB x.W x.Code.length) <;> cases wordB x.W x.Mem <;> simp only [Zlx,ZlL,Zl4,Zly] <;> grind
theorem ZhY {x:D.Program} (h:x.Code.length ≤ 1048576):Zad fuel x = some (progB x):=by
 unfold Zad
 have hl:=Zb4 (l:=x.Code) (f:=fun p=>ZaA p x.W (len x.Code)) (b:=insB x.W x.Code.length) (fun p _=>ZjM _ _ p) (by omega) x.Code.length 0 (by omega) fuel (Yy h)
 rw [show ((0:Nat):Int) = 0 from rfl] at hl
 simp only [Zbu,Zau,Zlx,Zd6]
 rw [hl,Zg]
 unfold progB
 simp only [ZmH]
 clear hl
 by_cases a1:2 ≤ x.W <;> by_cases a2:x.W ≤ 8 <;> by_cases a3:1 ≤ (x.Code.length:Int) <;> by_cases a4:(x.Code.length:Int) ≤ 40 <;> simp only [ge_iff_le,a1,a2,a3,a4,decide_true,decide_false,ZmJ,Bool.and_false,ZlV,Zmt,ZmR,and_self,Zne,and_false] <;>
  cases x.Code.all (insB x.W x.Code.length) <;> cases wordB x.W x.Mem <;> simp only [Zlx,ZlL,Zl4,Zly,Bool.decide_and] <;> grind
theorem Zcd {σt ρt:Type} {B:σt → Option (σt ⊕ ρt)} {s:σt} {r:ρt} {n:Nat} (h:B s = some (.inr r)) (hn:0 < n):iterN B n s = some r:=by
 obtain ⟨m,rfl⟩ : ∃ m,n = m + 1:=⟨n - 1,by omega⟩
 rw [iterN,h]
theorem Zag (s:Str):Str.eqb s s = true:=by unfold Str.eqb; simp
theorem Zfy {S ρ α σ:Type} {l:List α} {B:S → Option (S ⊕ ρ)} (enc:Nat → σ → S) (I:List α → σ → Prop) (R:ρ → Prop)
  (hs:∀ k x xs a,k < l.length → l[k]? = some x → l.length = k + (x :: xs).length → I (x :: xs) a → (∃ a',B (enc k a) = some (.inl (enc (k + 1) a')) ∧ I xs a') ∨ ∃ r,B (enc k a) = some (.inr r) ∧ R r)
  (he:∀ a,I [] a → ∃ r,B (enc l.length a) = some (.inr r) ∧ R r) :
  ∀ (ys:List α) (k:Nat) (a:σ) (n:Nat),l.drop k = ys → k ≤ l.length → I ys a → ys.length < n → ∃ r,iterN B n (enc k a) = some r ∧ R r
 | [],k,a,n,hd,hk,hI,hn=>by
  obtain ⟨n,rfl⟩ : ∃ j,n = j + 1:=⟨n - 1,by omega⟩
  have:k = l.length:=by
   have:=congrArg List.length hd
   simp at this; omega
  subst this
  obtain ⟨r,h1,h2⟩:=he a hI
  exact ⟨r,by unfold iterN; rw [h1],h2⟩
 | x :: xs,k,a,n,hd,hk,hI,hn=>by
  obtain ⟨n,rfl⟩ : ∃ j,n = j + 1:=⟨n - 1,by omega⟩
  have hl:l.length = k + (x :: xs).length:=by
   have:=congrArg List.length hd
   simp at this ⊢; omega
  have hk':k < l.length:=by simp at hl; omega
  have hx:l[k]? = some x:=by
   have h0:(l.drop k)[0]? = some x:=by rw [hd]; rfl
   rw [Zmz] at h0; simpa using h0
  rcases hs k x xs a hk' hx hl hI with ⟨a',h1,h2⟩ | ⟨r,h1,h2⟩
  ·obtain ⟨r, g1, g2⟩ := Zfy enc I R hs he xs (k + 1) a' n (by rw [← Znr, hd]; rfl) (by omega) h2 (by simp at hn; omega)
   exact ⟨r,by unfold iterN; rw [h1]; exact g1,g2⟩
  ·exact ⟨r,by unfold iterN; rw [h1],h2⟩
theorem ZN {S ρ α σ:Type} {l:List α} {B:S → Option (S ⊕ ρ)} (enc:Nat → σ → S) (I:List α → σ → Prop) (R:ρ → Prop)
  (hs:∀ k x xs a,k < l.length → l[k]? = some x → l.length = k + (x :: xs).length → I (x :: xs) a → (∃ a',B (enc k a) = some (.inl (enc (k + 1) a')) ∧ I xs a') ∨ ∃ r,B (enc k a) = some (.inr r) ∧ R r)
  (he:∀ a,I [] a → ∃ r,B (enc l.length a) = some (.inr r) ∧ R r) {a:σ} {n:Nat} (hI:I l a) (hn:l.length < n):∃ r,iterN B n (enc 0 a) = some r ∧ R r:=
 Zfy enc I R hs he l 0 a n rfl (ZlY _) hI hn
mutual
def msz:D.Term → Nat
 | ⟨_,_,_,s,k⟩=>s.bytes.length + k.length + mszs k
def mszs:List D.Term → Nat
 | []=>0
 | x :: l=>msz x + mszs l
end
theorem XI (t:D.Term):msz t = t.Name.bytes.length + t.Kids.length + mszs t.Kids:=by cases t; rw [msz]
theorem XQ (x:D.Term) (l:List D.Term):mszs (x :: l) = msz x + mszs l:=by rw [mszs]
theorem Zca:mszs [] = 0:=by rw [mszs]
theorem Xo {x:D.Term}:∀ {l:List D.Term},x ∈ l → msz x ≤ mszs l
 | y :: l,h=>by
  rw [XQ]
  rcases Zm5.1 h with rfl | h
  ·omega
  ·have:=Xo h; omega
theorem Zgr (t:D.Term):YN t ↔ fitInt t.Op ∧ fitInt t.W ∧ fitInt t.N ∧ t.Name.bytes.length ≤ 9223372036854775807 ∧ fitList YN t.Kids:=by
 cases t; rw [YN,ZbR]; rfl
theorem szT:∀ n:Nat,(∀ (t:D.Term) (m:Int),YN t → 0 ≤ m → m ≤ 1048576 → 2 * m + 3 ≤ n → ∃ r,Zai n t m = some r ∧ (r < 0 ∨ 0 ≤ r ∧ r = m - msz t)) ∧
  (∀ (l:List D.Term) (m:Int),fitList YN l → 0 ≤ m → m ≤ 1048576 → 2 * m + 2 ≤ n → ∃ r,Yr n l m = some r ∧ (r < 0 ∨ 0 ≤ r ∧ r = m - l.length - mszs l)):=by
 intro n
 induction n with
 | zero=>exact ⟨fun t m _ _ _ _=>by omega,fun l m _ _ _ _=>by omega⟩
 | succ n ih=>
  refine ⟨fun t m hf h0 h1 hn=>?_,fun l m hf h0 h1 hn=>?_⟩
  ·obtain ⟨-, -, -, hs, hk⟩ := (Zgr t).1 hf
   rw [XI]
   unfold Zai
   rw [Zg,Zk (by omega) (by omega)]
   by_cases c:m - (t.Name.bytes.length:Int) < 0
   ·rw [Zl6 (by simpa using c)]; exact ⟨_,rfl,.inl (by decide)⟩
   ·rw [Zl7 (by simpa using c)]
    obtain ⟨r,g1,g2⟩:=ih.2 t.Kids (m - (t.Name.bytes.length:Int)) hk (by omega) (by omega) (by omega)
    rw [g1]
    simp only [Zlx]
    rcases g2 with g2 | ⟨g2,g3⟩
    ·rw [Zl6 (by simpa using g2)]; exact ⟨_,rfl,.inl (by decide)⟩
    ·rw [Zl7 (by simpa using g2)]; exact ⟨_,rfl,.inr ⟨g2,by omega⟩⟩
  ·obtain ⟨hl, hk⟩ := hf
   unfold Yr
   rw [Zg,Zk (by omega) (by omega)]
   by_cases c:m - (l.length:Int) < 0
   ·rw [Zl6 (by simpa using c)]; exact ⟨_,rfl,.inl (by decide)⟩
   ·rw [Zl7 (by simpa using c)]
    obtain ⟨r,g1,g2⟩:=ZN (l:=l) (n:=n) (σ:=Int) (ρ:=Int ⊕ Int) (B:=fun (s1:Int × Int)=>
      if (decide (s1.2 < (l.length:Int))) then
       (get? l s1.2).bind fun x1=>
       (Zai n x1 s1.1).bind fun x2=>
       if (decide (x2 < 0)) then
        some (.inr (.inr (-1)))
       else
        some (.inl (x2,(w64 (s1.2 + 1))))
      else
       some (.inr (.inl (s1.1)))) (fun k (a:Int)=>(a,(k:Int))) (fun ys a=>0 ≤ a ∧ a ≤ m - l.length ∧ a - mszs ys = m - l.length - mszs l ∧ ∀ x ∈ ys,YN x) (fun r=>r = .inr (-1) ∨ ∃ v,r = .inl v ∧ 0 ≤ v ∧ v = m - l.length - mszs l)
      (fun k x xs a hk' hx hlen ⟨i0, i1, i2, i3⟩ => by
       rw [XQ] at i2
       simp at hlen
       obtain ⟨r,g1,g2⟩:=ih.1 x a (i3 x (by simp)) i0 (by omega) (by omega)
       simp only [get?_nat,hx,Zlx,g1]
       rw [Zl6 (by simpa using hk')]
       rcases g2 with g2 | ⟨g2,g3⟩
       ·rw [Zl6 (by simpa using g2)]; exact .inr ⟨_,rfl,.inl rfl⟩
       ·rw [Zl7 (by simpa using g2)]
        refine .inl ⟨r,by rw [Zk (by omega) (by omega)]; rfl,g2,by omega,by omega,fun y hy=>i3 y (by simp [hy])⟩)
      (fun a ⟨i0, i1, i2, _⟩ => by
       rw [Zca] at i2
       simp only
       rw [Zl7 (by simp)]
       exact ⟨_,rfl,.inr ⟨a,rfl,i0,by omega⟩⟩) (a:=m - l.length) ⟨by omega,by omega,rfl,hk⟩ (by omega)
    rw [show ((0:Nat):Int) = 0 from rfl] at g1
    rw [g1]
    simp only [Zlx]
    rcases g2 with rfl | ⟨v,rfl,g2,g3⟩
    ·exact ⟨_,rfl,.inl (by decide)⟩
    ·exact ⟨_,rfl,.inr ⟨g2,by omega⟩⟩
def sml (l:List D.Term):Prop:=l.length + mszs l ≤ 1048576
theorem szTS {l:List D.Term} {m:Int} (hf:fitList YN l) (h0:0 ≤ m) (h1:m ≤ 1048576):∃ r,Yr fuel l m = some r ∧ (r < 0 ∨ 0 ≤ r ∧ r ≤ m ∧ sml l):=by
 obtain ⟨r,h2,h3⟩:=(szT fuel).2 l m hf h0 h1 (by unfold fuel; omega)
 refine ⟨r,h2,h3.imp_right fun ⟨h3,h4⟩=>⟨h3,by omega,by unfold sml; omega⟩⟩
theorem toT:∀ n:Nat,(∀ t:D.Term,msz t ≤ 1048576 → 1048580 + 2 * msz t + 1 ≤ n → XY n t = some t) ∧ (∀ l:List D.Term,sml l → 1048580 + 2 * (l.length + mszs l) ≤ n → Yq n l = some l):=by
 intro n
 induction n with
 | zero=>exact ⟨fun t _ _=>by omega,fun l _ _=>by omega⟩
 | succ n ih=>
  refine ⟨fun t h hn=>?_,fun l h hn=>?_⟩
  ·have := XI t
   unfold XY
   rw [ih.2 t.Kids (by unfold sml; omega) (by omega)]
   cases t; rfl
  ·unfold sml at h
   unfold Yq
   rw [mk?_len (by unfold room; omega)]
   simp only [Zlx]
   obtain ⟨r,g1,g2⟩:=ZN (l:=l) (n:=n) (σ:=List D.Term) (ρ:=List D.Term) (B:=fun (s1:Int × (List D.Term))=>
     if (decide (s1.1 < (len l))) then
      (get? l s1.1).bind fun x2=>
      (XY n x2).bind fun x3=>
      (set? s1.2 s1.1 x3).bind fun x4=>
      some (.inl ((w64 (s1.1 + 1)),x4))
     else
      some (.inr (s1.2))) (fun k (a:List D.Term)=>((k:Int),a)) (fun ys a=>(∃ zs:List D.Term,a = l.take (l.length - ys.length) ++ zs ∧ zs.length = ys.length) ∧ ∀ x ∈ ys,x ∈ l) (fun r=>r = l)
     (fun k x xs a hk' hx hlen ⟨⟨zs, hz, hz'⟩, hm⟩ => by
      have hxl:=hm x (by simp)
      have:=Xo hxl
      simp only [ZlO] at hlen hz' hz
      have hpos:0 < l.length:=by omega
      simp only [get?_nat,hx,Zlx,Zg]
      rw [Zl6 (by simpa using hk'),ih.1 x (by omega) (by omega)]
      simp only [Zlx]
      obtain ⟨z,zs,rfl⟩ : ∃ z zs',zs = z :: zs':=by cases zs with | nil=>simp at hz' | cons z zs=>exact ⟨_,_,rfl⟩
      have e1:l.length - (xs.length + 1) = k:=by omega
      rw [e1] at hz
      subst hz
      rw [set?_nat (by simp at hz' ⊢; omega)]
      refine .inl ⟨_,by simp only [Zlx]; rw [Zk (by omega) (by omega)]; rfl,⟨zs,?_,by simpa using hz'⟩,fun y hy=>hm y (by simp [hy])⟩
      have e2:l.length - xs.length = k + 1:=by omega
      rw [e2,List.take_add_one,hx]
      have e3:(l.take k).length = k:=by simp; omega
      rw [Zmo _ _ (by omega)]
      simp [e3])
     (fun a ⟨⟨zs, hz, hz'⟩, _⟩ => by
      simp only
      rw [Zl7 (by rw [Zg]; simp)]
      simp at hz'
      subst hz'
      simp at hz
      exact ⟨_,rfl,hz⟩) (a:=List.replicate l.length _) ⟨⟨_,(by simp; rfl),(by simp)⟩,fun x hx=>hx⟩ (by omega)
   rw [show ((0:Nat):Int) = 0 from rfl] at g1
   rw [g1,g2]
   rfl
theorem toTS {l:List D.Term} (h:sml l):Yq fuel l = some l:=(toT fuel).2 l h (by unfold sml at h; unfold fuel; omega)
theorem eqT:∀ n:Nat,(∀ t:D.Term,msz t ≤ 1048576 → 1048580 + 2 * msz t + 1 ≤ n → Zap n t t = some true) ∧ (∀ l:List D.Term,sml l → 1048580 + 2 * (l.length + mszs l) ≤ n → Yn n l l = some true):=by
 intro n
 induction n with
 | zero=>exact ⟨fun t _ _=>by omega,fun l _ _=>by omega⟩
 | succ n ih=>
  refine ⟨fun t h hn=>?_,fun l h hn=>?_⟩
  ·have := XI t
   unfold Zap
   rw [ih.2 t.Kids (by unfold sml; omega) (by omega)]
   simp [Zag]
  ·unfold sml at h
   unfold Yn
   rw [Zl7 (by simp)]
   obtain ⟨r,g1,g2⟩:=ZN (l:=l) (n:=n) (σ:=Unit) (ρ:=Unit ⊕ Bool) (B:=fun (s1:Int)=>
     if (decide (s1 < (len l))) then
      (get? l s1).bind fun x1=>
      (get? l s1).bind fun x2=>
      (Zap n x1 x2).bind fun x3=>
      if (!x3) then
       some (.inr (.inr false))
      else
       some (.inl ((w64 (s1 + 1))))
     else
      some (.inr (.inl ()))) (fun k (_:Unit)=>(k:Int)) (fun ys _=>∀ x ∈ ys,x ∈ l) (fun r=>r = (.inl ():Unit ⊕ Bool))
     (fun k x xs a hk' hx hlen hm => by
      have hxl:=hm x (by simp)
      have:=Xo hxl
      have hpos:0 < l.length:=by omega
      simp only [get?_nat,hx,Zlx,Zg]
      rw [Zl6 (by simpa using hk'),ih.1 x (by omega) (by omega)]
      refine .inl ⟨(),?_,fun y hy=>hm y (by simp [hy])⟩
      simp only [Zlx]
      rw [Zl7 (by simp),Zk (by omega) (by omega)]; rfl)
     (fun a _ => by
      rw [Zl7 (by rw [Zg]; simp)]
      exact ⟨_,rfl,rfl⟩) (a:=()) (fun x hx=>hx) (by omega)
   rw [show ((0:Nat):Int) = 0 from rfl] at g1
   rw [g1,g2]
   rfl
theorem eqTS {l:List D.Term} (h:sml l):Yn fuel l l = some true:=(eqT fuel).2 l h (by unfold sml at h; unfold fuel; omega)
def smallP (x:D.Path):Prop:=sml x.Regs ∧ sml x.Mem ∧ x.Stack.length ≤ 1048576 ∧ sml x.Out ∧ sml x.Cond ∧ x.Turns.length ≤ 1048576
theorem Zf3 {x:D.Path} {m:Int} (hx:Zc9 x) (h0:0 ≤ m) (h1:m ≤ 1048576):∃ r,Zam fuel x m = some r ∧ (r < 0 ∨ 0 ≤ r ∧ r ≤ m ∧ smallP x):=by
 obtain ⟨-,f1,f2,f3,-,f4,-,-,f5,f6⟩:=hx
 unfold Zam
 obtain ⟨r1,e1,c1⟩:=szTS f1 h0 h1
 rw [e1]; simp only [Zlx]
 rcases c1 with c1 | ⟨c1,d1,s1⟩
 ·rw [Zl6 (by simpa using c1)]; exact ⟨_,rfl,.inl (by decide)⟩
 rw [Zl7 (by simpa using c1)]
 obtain ⟨r2,e2,c2⟩:=szTS f2 c1 (by omega)
 rw [e2]; simp only [Zlx]
 rcases c2 with c2 | ⟨c2,d2,s2⟩
 ·rw [Zl6 (by simpa using c2)]; exact ⟨_,rfl,.inl (by decide)⟩
 rw [Zl7 (by simpa using c2),Zf6 f3.1 c2 (by omega)]
 simp only [Zlx]
 by_cases c3:r2 - (x.Stack.length:Int) < 0
 ·rw [Zl6 c3]; exact ⟨_,rfl,.inl (by decide)⟩
 rw [Zl7 c3,Zl7 (by simpa using c3)]
 obtain ⟨r4,e4,c4⟩:=szTS f4 (m:=r2 - (x.Stack.length:Int)) (by omega) (by omega)
 rw [e4]; simp only [Zlx]
 rcases c4 with c4 | ⟨c4,d4,s4⟩
 ·rw [Zl6 (by simpa using c4)]; exact ⟨_,rfl,.inl (by decide)⟩
 rw [Zl7 (by simpa using c4)]
 obtain ⟨r5,e5,c5⟩:=szTS f5 c4 (by omega)
 rw [e5]; simp only [Zlx]
 rcases c5 with c5 | ⟨c5,d5,s5⟩
 ·rw [Zl6 (by simpa using c5)]; exact ⟨_,rfl,.inl (by decide)⟩
 rw [Zl7 (by simpa using c5),Zf6 f6.1 c5 (by omega)]
 simp only [Zlx]
 by_cases c6:r5 - (x.Turns.length:Int) < 0
 ·rw [Zl6 c6]; exact ⟨_,rfl,.inl (by decide)⟩
 rw [Zl7 c6,Zl7 (by simpa using c6)]
 exact ⟨_,rfl,.inr ⟨by omega,by omega,s1,s2,by omega,s4,s5,by omega⟩⟩
theorem Zfq {x:D.Path} (h:smallP x):YX fuel x = some x:=by
 obtain ⟨h1,h2,h3,h4,h5,h6⟩:=h
 unfold YX
 rw [toTS h1,toTS h2,Zf8 h3,toTS h4,toTS h5,Zf8 h6]
 rfl
theorem Zeg {x:D.Path} (h:smallP x):Zah fuel x x = some true:=by
 obtain ⟨h1,h2,h3,h4,h5,h6⟩:=h
 unfold Zah
 simp [eqTS h1,eqTS h2,Zfz h3,eqTS h4,eqTS h5,Zfz h6]
set_option maxRecDepth 100000
mutual
def cnt:D.Term → Nat
 | ⟨_,_,_,_,k⟩=>1 + cnts k
def cnts:List D.Term → Nat
 | []=>0
 | x :: l=>cnt x + cnts l
end
theorem XC (t:D.Term):cnt t = 1 + cnts t.Kids:=by cases t; rw [cnt]
theorem X6 (x:D.Term) (l:List D.Term):cnts (x :: l) = cnt x + cnts l:=by rw [cnts]
theorem Za1:cnts [] = 0:=by rw [cnts]
theorem Zb3 {x:D.Term}:∀ {l:List D.Term},x ∈ l → cnt x ≤ cnts l
 | y :: l,h=>by
  rw [X6]
  rcases Zm5.1 h with rfl | h
  ·omega
  ·have:=Zb3 h; omega
def lf (m:Int) (c:Nat):Int:=if m - c < 0 then -1 else m - c
theorem few:∀ (n:Nat) (t:D.Term) (m:Int),msz t ≤ 1048576 → 0 ≤ m → m ≤ 240 → 1048580 + m ≤ n → X9 n t m = some (decide (lf m (cnt t) ≥ 0),lf m (cnt t)):=by
 intro n
 induction n with
 | zero=>intro t m _ _ _ _; omega
 | succ n ih=>
  intro t m hs h0 h1 hn
  have hz:=XI t
  unfold X9
  rw [Zk (by omega) (by omega)]
  obtain ⟨r,g1,g2⟩:=ZN (l:=t.Kids) (n:=n) (σ:=Int) (ρ:=Int) (B:=fun (s1:Int × Int)=>
    if ((decide (s1.1 < (len t.Kids))) && (decide (s1.2 ≥ 0))) then
     (get? t.Kids s1.1).bind fun x1=>
     (X9 n x1 s1.2).bind fun x2=>
     some (.inl ((w64 (s1.1 + 1)),x2.2))
    else
     some (.inr (s1.2))) (fun k a=>((k:Int),a)) (fun ys a=>-1 ≤ a ∧ a ≤ m - 1 ∧ lf a (cnts ys) = lf (m - 1) (cnts t.Kids) ∧ ∀ x ∈ ys,x ∈ t.Kids) (fun r=>r = lf (m - 1) (cnts t.Kids))
    (fun k x xs a hk' hx hlen ⟨i0, i1, i2, i3⟩ => by
     have:=Xo (i3 x (by simp))
     rw [X6] at i2
     simp only
     by_cases ha:0 ≤ a
     ·refine .inl ⟨lf a (cnt x), ?_, ?_, ?_, ?_, fun y hy => i3 y (by simp [hy])⟩
      ·rw [Zl6 (by rw [Zg]; simp; omega), get?_nat, hx]
       simp only [Zlx]
       rw [ih x a (by omega) ha (by omega) (by omega),Zk (by omega) (by omega)]; rfl
      ·unfold lf; split <;> omega
      ·unfold lf; split <;> omega
      ·rw [← i2]; unfold lf; split <;> split <;> split <;> omega
     ·refine .inr ⟨a, by rw [Zl7 (by simp; omega)], ?_⟩
      rw [← i2]; unfold lf; split <;> omega)
    (fun a ⟨i0, i1, i2, _⟩ => by
     rw [Za1] at i2
     simp only
     rw [Zl7 (by rw [Zg]; simp)]
     refine ⟨_,rfl,?_⟩
     rw [← i2]; unfold lf; split <;> omega) (a:=m - 1) ⟨by omega,by omega,rfl,fun x hx=>hx⟩ (by omega)
  rw [show ((0:Nat):Int) = 0 from rfl] at g1
  rw [g1,g2]
  have e:lf (m - 1) (cnts t.Kids) = lf m (cnt t):=by rw [XC]; unfold lf; split <;> split <;> omega
  simp only [Zlx,e]
def okF (k:Nat):List UInt8 → Bool
 | []=>true
 | b :: l=>(decide (97 ≤ b.toNat ∧ b.toNat ≤ 122) || (decide (k ≠ 0) && decide (48 ≤ b.toNat ∧ b.toNat ≤ 57))) && okF (k + 1) l
theorem Zg5 (k:Nat) (b:UInt8) (l:List UInt8):okF k (b :: l) = ((decide (97 ≤ b.toNat ∧ b.toNat ≤ 122) || (decide (k ≠ 0) && decide (48 ≤ b.toNat ∧ b.toNat ≤ 57))) && okF (k + 1) l):=rfl
def nameB (s:Str):Bool:=okF 0 s.bytes && decide (1 ≤ s.bytes.length ∧ s.bytes.length ≤ 8)
theorem Zgf {s:Str} {k:Nat} {b:UInt8} (h:s.bytes[k]? = some b):sidx? s (k:Int) = some (b.toNat:Int):=by
 unfold sidx?; rw [Zl6 (by omega)]; simp [h]
theorem Zj (a b c:Int):Zm a b c = some (decide (b ≤ a ∧ a ≤ c)):=by simp [Zm]
theorem Zib {n:Nat} {s:Str} (hl:s.bytes.length ≤ 1048576) (hn:s.bytes.length < n):ZaB n s = some (nameB s):=by
 unfold ZaB
 obtain ⟨r,g1,g2⟩:=ZN (l:=s.bytes) (n:=n) (σ:=Unit) (ρ:=Unit ⊕ Bool) (B:=fun (s1:Int)=>
  if (decide (s1 < (len s.bytes))) then
   (sidx? s s1).bind fun x1=>
   (Zm (w64 x1) 97 122).bind fun x2=>
   (if (s1 == 0) then some default else (if (!x2) then (sidx? s s1) else some default)).bind fun x3=>
   (if (s1 == 0) then some default else (if (!x2) then (Zm (w64 x3) 48 57) else some default)).bind fun x4=>
   if ((!x2) && ((s1 == 0) || (!x4))) then
    some (.inr (.inr false))
   else
    some (.inl ((w64 (s1 + 1))))
  else
   some (.inr (.inl ()))) (fun k _=>(k:Int)) (fun ys _=>okF (s.bytes.length - ys.length) ys = okF 0 s.bytes) (fun r=>r = if okF 0 s.bytes then (.inl ():Unit ⊕ Bool) else .inr false)
  (fun k x xs a hk' hx hlen hi => by
   have e1:s.bytes.length - (x :: xs).length = k:=by omega
   have e2:s.bytes.length - xs.length = k + 1:=by simp at hlen; omega
   rw [e1] at hi
   rw [e2]
   have hb:=x.toNat_lt
   rw [← hi]
   simp only [Zgf hx,Zlx,Zj]
   rw [Zl6 (by rw [Zg]; simp; omega),Zk (x:=(x.toNat:Int)) (by omega) (by omega),Zk (x:=(k:Int) + 1) (by omega) (by omega)]
   have wx:w64 (x.toNat:Int) = x.toNat:=Zk (by omega) (by omega)
   rw [Zg5]
   by_cases c1:97 ≤ x.toNat ∧ x.toNat ≤ 122
   ·refine .inl ⟨(), ?_, ?_⟩
    ·have : ((97 : Int) ≤ x.toNat ∧ (x.toNat : Int) ≤ 122) := by omega
     simp [this]
    ·simp [c1]
   ·have c1' : ¬ ((97 : Int) ≤ x.toNat ∧ (x.toNat : Int) ≤ 122) := by omega
    by_cases c2:k = 0
    ·subst c2
     exact .inr ⟨.inr false,by simp [c1',wx],by simp [c1]⟩
    ·by_cases c3 : 48 ≤ x.toNat ∧ x.toNat ≤ 57
     ·have : ((48 : Int) ≤ x.toNat ∧ (x.toNat : Int) ≤ 57) := by omega
      exact .inl ⟨(),by simp [c1',c2,this,wx],by simp [c1,c2,c3]⟩
     ·have : ¬ ((48 : Int) ≤ x.toNat ∧ (x.toNat : Int) ≤ 57) := by omega
      exact .inr ⟨.inr false,by simp [c1',c2,this,wx],by simp [c1,c2,c3]⟩)
  (fun a hi => by
   rw [Zl7 (by rw [Zg]; simp)]
   refine ⟨_,rfl,?_⟩
   rw [← hi]; simp [okF]) (a:=()) (by simp) hn
 rw [show ((0:Nat):Int) = 0 from rfl] at g1
 rw [g1,g2]
 unfold nameB
 cases okF 0 s.bytes
 ·simp
 ·simp only [Zj,Zg,ZlL,Zlx,ZlV,Option.some.injEq,decide_eq_decide]; omega
def shB (op w m:Int) (name:Str) (ws:List Int):Bool:=
 if op = 0 then ws.isEmpty && wordB w m
 else if op = 22 then ws.isEmpty && nameB name
 else if 1 ≤ op ∧ op ≤ 2 then (match ws with | [a]=>a == w | _=>false)
 else if 3 ≤ op ∧ op ≤ 13 then (match ws with | [a,b]=>a == w && b == w | _=>false)
 else if 14 ≤ op ∧ op ≤ 16 then (match ws with | [a,b]=>a == b && w == 1 | _=>false)
 else if op = 17 then (match ws with | [a,b,c]=>a == 1 && b == w && c == w | _=>false)
 else if op = 18 then (match ws with | [a,b]=>a + b == w | _=>false)
 else if op = 19 then (match ws with | [a]=>decide (0 ≤ m ∧ m ≤ 16) && decide (m + w ≤ a) | _=>false)
 else if 20 ≤ op ∧ op ≤ 21 then (match ws with | [a]=>decide (a ≤ w) | _=>false)
 else false
def locB (t:D.Term):Bool:=
 decide (1 ≤ t.W ∧ t.W ≤ 16) && (Str.eqb t.Name ⟨[]⟩ || t.Op == 22) && (t.N == 0 || t.Op == 0 || t.Op == 19) && shB t.Op t.W t.N t.Name (t.Kids.map (·.W))
mutual
def nodeB:D.Term → Bool
 | ⟨o,w,m,s,k⟩=>locB ⟨o,w,m,s,k⟩ && nodesB k
def nodesB:List D.Term → Bool
 | []=>true
 | x :: l=>nodeB x && nodesB l
end
theorem Xi (t:D.Term):nodeB t = (locB t && nodesB t.Kids):=by cases t; rw [nodeB]
theorem ZL:∀ l:List D.Term,nodesB l = l.all nodeB
 | []=>by rw [nodesB]; rfl
 | x :: l=>by rw [nodesB,ZL l]; rfl
theorem YB {t:D.Term} (h:nodeB t = true):1 ≤ t.W ∧ t.W ≤ 16:=by
 rw [Xi] at h
 unfold locB at h
 simp only [Zl0,ZlB] at h
 exact h.1.1.1.1
def pad3:List D.Term → List Int
 | []=>[0,0,0]
 | [a]=>[a.W,0,0]
 | [a,b]=>[a.W,b.W,0]
 | a :: b :: c :: _=>[a.W,b.W,c.W]
theorem Zkd {l:List D.Term} {n:Nat} (hn:4 ≤ n):iterN (fun (s2:Int × (List Int))=>
   if ((decide (s2.1 < (len l))) && (decide (s2.1 < 3))) then
    (get? l s2.1).bind fun x4=>
    (set? s2.2 s2.1 x4.W).bind fun x5=>
    some (.inl ((w64 (s2.1 + 1)),x5))
   else
    some (.inr (s2.2))
  ) n (0,([0,0,0]:List Int)) = some (pad3 l):=by
 obtain ⟨n,rfl⟩ : ∃ j,n = j + 4:=⟨n - 4,by omega⟩
 rcases l with _ | ⟨a,_ | ⟨b,_ | ⟨c,l⟩⟩⟩
 ·simp [iterN,len,pad3]
 ·simp [iterN,len,pad3,get?,set?,Zk]
 ·simp [iterN,len,pad3,get?,set?,Zk]
 ·have h1 : (0 : Int) < (l.length : Int) + 1 + 1 + 1 := by omega
  have h2:(1:Int) < (l.length:Int) + 1 + 1 + 1:=by omega
  have h3:(2:Int) < (l.length:Int) + 1 + 1 + 1:=by omega
  simp [iterN,len,pad3,get?,set?,Zk,h1,h2,h3]
theorem Zjw {n:Nat} {p0:D.Term} (ih:∀ x ∈ p0.Kids,Y4 n x = some (nodeB x)) (hk:p0.Kids.length ≤ 1048576) (hs:p0.Name.bytes.length ≤ 1048576) (hn:1048580 ≤ n) (hw:1 ≤ p0.W ∧ p0.W ≤ 16) :
   ((iterN (fun (s1 : Int) =>
    if (decide (s1 < (len p0.Kids))) then
     (get? p0.Kids s1).bind fun x2=>
     (Y4 n x2).bind fun x3=>
     if (!x3) then
      some (.inr (.inr false))
     else
      some (.inl ((w64 (s1 + 1))))
    else
     some (.inr (.inl ()))
   ) n (0)).bind fun (rl1:(Unit) ⊕ Bool)=>
   match rl1 with
   | .inl s1r =>
    (iterN (fun (s2 : Int × (List Int)) =>
     if ((decide (s2.1 < (len p0.Kids))) && (decide (s2.1 < 3))) then
      (get? p0.Kids s2.1).bind fun x4=>
      (set? s2.2 s2.1 x4.W).bind fun x5=>
      some (.inl ((w64 (s2.1 + 1)),x5))
     else
      some (.inr (s2.2))
    ) n (0,([0,0,0]:List Int))).bind fun (rl2:(List Int))=>
    if (p0.Op == 0) then
     (if ((len p0.Kids) == 0) then (ZF p0.W p0.N) else some default).bind fun x6=>
     some (((len p0.Kids) == 0) && x6)
    else
     if (p0.Op == 22) then
      (if ((len p0.Kids) == 0) then (ZaB n p0.Name) else some default).bind fun x7=>
      some (((len p0.Kids) == 0) && x7)
     else
      (Zm p0.Op 1 2).bind fun x8=>
      if x8 then
       (if ((len p0.Kids) == 1) then (get? rl2 0) else some default).bind fun x9=>
       some (((len p0.Kids) == 1) && (x9 == p0.W))
      else
       (Zm p0.Op 3 13).bind fun x10=>
       if x10 then
        (if ((len p0.Kids) == 2) then (get? rl2 0) else some default).bind fun x11=>
        (if (((len p0.Kids) == 2) && (x11 == p0.W)) then (get? rl2 1) else some default).bind fun x12=>
        some ((((len p0.Kids) == 2) && (x11 == p0.W)) && (x12 == p0.W))
       else
        (Zm p0.Op 14 16).bind fun x13=>
        if x13 then
         (if ((len p0.Kids) == 2) then (get? rl2 0) else some default).bind fun x14=>
         (if ((len p0.Kids) == 2) then (get? rl2 1) else some default).bind fun x15=>
         some ((((len p0.Kids) == 2) && (x14 == x15)) && (p0.W == 1))
        else
         if (p0.Op == 17) then
          (if ((len p0.Kids) == 3) then (get? rl2 0) else some default).bind fun x16=>
          (if (((len p0.Kids) == 3) && (x16 == 1)) then (get? rl2 1) else some default).bind fun x17=>
          (if ((((len p0.Kids) == 3) && (x16 == 1)) && (x17 == p0.W)) then (get? rl2 2) else some default).bind fun x18=>
          some (((((len p0.Kids) == 3) && (x16 == 1)) && (x17 == p0.W)) && (x18 == p0.W))
         else
          if (p0.Op == 18) then
           (if ((len p0.Kids) == 2) then (get? rl2 0) else some default).bind fun x19=>
           (if ((len p0.Kids) == 2) then (get? rl2 1) else some default).bind fun x20=>
           some (((len p0.Kids) == 2) && ((w64 (x19 + x20)) == p0.W))
          else
           if (p0.Op == 19) then
            (if ((len p0.Kids) == 1) then (Zm p0.N 0 16) else some default).bind fun x21=>
            (if (((len p0.Kids) == 1) && x21) then (get? rl2 0) else some default).bind fun x22=>
            some ((((len p0.Kids) == 1) && x21) && (decide ((w64 (p0.N + p0.W)) ≤ x22)))
           else
            (Zm p0.Op 20 21).bind fun x23=>
            (if (x23 && ((len p0.Kids) == 1)) then (get? rl2 0) else some default).bind fun x24=>
            some ((x23 && ((len p0.Kids) == 1)) && (decide (x24 ≤ p0.W)))
   | .inr v=>some v) = some (nodesB p0.Kids && shB p0.Op p0.W p0.N p0.Name (p0.Kids.map (·.W))):=by
 have hl:=Zb4 (l:=p0.Kids) (f:=fun x=>Y4 n x) (b:=nodeB) ih (by omega) p0.Kids.length 0 (by omega) n (by omega)
 rw [show ((0:Nat):Int) = 0 from rfl] at hl
 rw [hl,ZmH,ZL]
 by_cases ha:p0.Kids.all nodeB = true
 ·rw [ha]
  have hkw:∀ x ∈ p0.Kids,1 ≤ x.W ∧ x.W ≤ 16:=fun x hx=>YB (Zl8.1 ha x hx)
  simp only [ZlL,Zlx,ZlV,Zj,X0,Zib hs (show p0.Name.bytes.length < n by omega)]
  rw [Zkd (by omega)]
  simp only [Zlx]
  generalize hks:p0.Kids = ks
  rw [hks] at hkw
  obtain ⟨op,w,m,nm,_⟩:=p0
  simp only at hw ⊢
  have g0:∀ x y z:Int,get? [x,y,z] 0 = some x:=fun _ _ _=>rfl
  have g1:∀ x y z:Int,get? [x,y,z] 1 = some y:=fun _ _ _=>rfl
  have g2:∀ x y z:Int,get? [x,y,z] 2 = some z:=fun _ _ _=>rfl
  have q0:∀ x y z:D.Term,∀ l:List D.Term,((l.length:Int) + 1 + 1 + 1 + 1 == 0) = false:=fun x y z l=>by simp; omega
  have hA:ks = [] ∨ (∃ a:D.Term,ks = [a] ∧ 1 ≤ a.W ∧ a.W ≤ 16) ∨ (∃ a b:D.Term,ks = [a,b] ∧ (1 ≤ a.W ∧ a.W ≤ 16) ∧ 1 ≤ b.W ∧ b.W ≤ 16) ∨ (∃ a b c:D.Term,ks = [a,b,c]) ∨ ∃ (a b c d:D.Term) (l:List D.Term),ks = a :: b :: c :: d :: l:=by
   rcases ks with _ | ⟨a,_ | ⟨b,_ | ⟨c,_ | ⟨d,l⟩⟩⟩⟩
   ·exact .inl rfl
   ·exact .inr (.inl ⟨a,rfl,hkw a (by simp)⟩)
   ·exact .inr (.inr (.inl ⟨a,b,rfl,hkw a (by simp),hkw b (by simp)⟩))
   ·exact .inr (.inr (.inr (.inl ⟨a,b,c,rfl⟩)))
   ·exact .inr (.inr (.inr (.inr ⟨a,b,c,d,l,rfl⟩)))
  rcases hA with rfl | ⟨a,rfl,ha⟩ | ⟨a,b,rfl,ha,hb⟩ | ⟨a,b,c,rfl⟩ | ⟨a,b,c,d,l,rfl⟩
  ·simp only [pad3, Zg, Zmu, ZmP, g0, g1, g2, Zlx, ZbN]
   unfold shB
   by_cases o0:op = 0
   ·simp [o0]
   by_cases o1:op = 22
   ·simp [o1]
   simp [o0,o1]
  ·have e19 : ∀ h : 0 ≤ m ∧ m ≤ 16, w64 (m + w) = m + w := fun h => Zk (by omega) (by omega)
   simp only [pad3,Zg,Zmu,ZlO,ZmP,ZlK,g0,g1,g2,Zlx,ZbN]
   unfold shB
   by_cases o0:op = 0
   ·simp [o0]
   by_cases o1:op = 22
   ·simp [o1]
   by_cases o2:1 ≤ op ∧ op ≤ 2
   ·simp [o0,o1,o2]
   by_cases o3:3 ≤ op ∧ op ≤ 13
   ·simp [o0,o1,o2,o3]
   by_cases o4:14 ≤ op ∧ op ≤ 16
   ·simp [o0,o1,o2,o3,o4]
   by_cases o5:op = 17
   ·simp [o5]
   by_cases o6:op = 18
   ·simp [o6]
   by_cases o7:op = 19
   ·by_cases hm : 0 ≤ m ∧ m ≤ 16
    ·simp [o7,hm,e19 hm]
    ·simp [o7,hm]
   by_cases o8:20 ≤ op ∧ op ≤ 21
   ·simp [o0,o1,o2,o3,o4,o5,o6,o7,o8]
   simp [o0,o1,o2,o3,o4,o5,o6,o7,o8]
  ·have e18 : w64 (a.W + b.W) = a.W + b.W := Zk (by omega) (by omega)
   simp only [pad3,Zg,Zmu,ZlO,ZmP,ZlK,g0,g1,g2,Zlx,ZbN,e18]
   unfold shB
   by_cases o0:op = 0
   ·simp [o0]
   by_cases o1:op = 22
   ·simp [o1]
   by_cases o2:1 ≤ op ∧ op ≤ 2
   ·simp [o0,o1,o2]
   by_cases o3:3 ≤ op ∧ op ≤ 13
   ·by_cases c : a.W = w
    ·simp [o0,o1,o2,o3,c]
    ·have c' : (a.W == w) = false := by simpa using c
     simp [o0,o1,o2,o3,c,c']
   by_cases o4:14 ≤ op ∧ op ≤ 16
   ·simp [o0,o1,o2,o3,o4]
   by_cases o5:op = 17
   ·simp [o5]
   by_cases o6:op = 18
   ·simp [o6,e18]
   by_cases o7:op = 19
   ·simp [o7]
   simp [o0,o1,o2,o3,o4,o5,o6,o7]
  ·simp only [pad3, Zg, Zmu, ZlO, ZmP, ZlK, g0, g1, g2, Zlx, ZbN]
   unfold shB
   by_cases o0:op = 0
   ·simp [o0]
   by_cases o1:op = 22
   ·simp [o1]
   by_cases o2:1 ≤ op ∧ op ≤ 2
   ·simp [o0,o1,o2]
   by_cases o3:3 ≤ op ∧ op ≤ 13
   ·simp [o0,o1,o2,o3]
   by_cases o4:14 ≤ op ∧ op ≤ 16
   ·simp [o0,o1,o2,o3,o4]
   by_cases o5:op = 17
   ·by_cases c1 : a.W = 1
    ·by_cases c2 : b.W = w
     ·simp [o5,c1,c2]
     ·have c2' : (b.W == w) = false := by simpa using c2
      simp [o5,c1,c2,c2']
    ·have c1' : (a.W == 1) = false := by simpa using c1
     simp [o5,c1,c1']
   by_cases o6:op = 18
   ·simp [o6]
   by_cases o7:op = 19
   ·simp [o7]
   simp [o0,o1,o2,o3,o4,o5,o6,o7]
  ·have e0 : (len (a :: b :: c :: d :: l) == 0) = false := by rw [Zg]; simp; omega
   have e1:(len (a :: b :: c :: d :: l) == 1) = false:=by rw [Zg]; simp; omega
   have e2:(len (a :: b :: c :: d :: l) == 2) = false:=by rw [Zg]; simp; omega
   have e3:(len (a :: b :: c :: d :: l) == 3) = false:=by rw [Zg]; simp; omega
   simp only [pad3,ZlK,g0,g1,g2,Zlx,ZbN,e0,e1,e2,e3,Zmt,Bool.and_false,Zl4,Zly]
   unfold shB
   simp
 ·rw [Bool.not_eq_true] at ha
  rw [ha]
  simp
theorem ZiC:∀ (n:Nat) (t:D.Term),msz t ≤ 1048576 → 1048580 + cnt t ≤ n → Y4 n t = some (nodeB t):=by
 intro n
 induction n with
 | zero=>intro t _ _; omega
 | succ n ih=>
  intro t hs hn
  have hz:=XI t
  have hc:=XC t
  have ih':∀ x ∈ t.Kids,Y4 n x = some (nodeB x):=fun x hx=>by
   have:=Xo hx
   have:=Zb3 hx
   exact ih x (by omega) (by omega)
  have e0:∀ c:Bool,nodeB t = (decide (1 ≤ t.W ∧ t.W ≤ 16) && (Str.eqb t.Name ⟨[]⟩ || t.Op == 22) && (t.N == 0 || t.Op == 0 || t.Op == 19) && (nodesB t.Kids && shB t.Op t.W t.N t.Name (t.Kids.map (·.W)))):=fun _=>by
   rw [Xi]; unfold locB
   cases nodesB t.Kids <;> simp
  have e0:=e0 true
  unfold Y4
  rw [Zj]
  simp only [Zlx]
  have hx:∀ a b c d e f:Bool,((!a || (!b && !c)) || ((!d && !e) && !f)) = !(a && (b || c) && (d || e || f)):=by decide
  rw [show ((!decide (1 ≤ t.W ∧ t.W ≤ 16) || ((!Str.eqb t.Name ⟨[]⟩) && (t.Op != 22))) || (((t.N != 0) && (t.Op != 0)) && (t.Op != 19))) = _ from hx _ _ _ _ _ _]
  cases c:(decide (1 ≤ t.W ∧ t.W ≤ 16) && (Str.eqb t.Name ⟨[]⟩ || t.Op == 22) && (t.N == 0 || t.Op == 0 || t.Op == 19))
  ·rw [e0,c]; rfl
  ·have hw:1 ≤ t.W ∧ t.W ≤ 16:=by
    simp only [Zl0,ZlB] at c
    exact c.1.1
   rw [e0,c,Zl7 (by decide),ZlV]
   exact Zjw ih' (by omega) (by omega) (by omega) hw
set_option linter.unusedSimpArgs false
theorem Zjv:∀ x:List UInt8,Op.bytesLess x x = false
 | []=>rfl
 | a :: x=>by simp [Op.bytesLess,Zjv x]
theorem ZgV:∀ x y z:List UInt8,Op.bytesLess x y = true → Op.bytesLess y z = true → Op.bytesLess x z = true
 | _,_,[]=>by intro _ h; cases ‹List UInt8› <;> simp [Op.bytesLess] at h
 | _,[],_ :: _=>by intro h _; cases ‹List UInt8› <;> simp [Op.bytesLess] at h
 | [],_ :: _,_ :: _=>by intro _ _; rfl
 | a :: x,b :: y,c :: z=>by
  intro h1 h2
  simp only [Op.bytesLess,Zmj,ZlB,Zl0,ZlW] at h1 h2 ⊢
  rcases h1 with h1 | ⟨rfl,h1⟩
  ·rcases h2 with h2 | ⟨rfl, h2⟩
   ·exact .inl (UInt8.lt_trans h1 h2)
   ·exact .inl h1
  ·rcases h2 with h2 | ⟨rfl, h2⟩
   ·exact .inl h2
   ·exact .inr ⟨rfl,ZgV x y z h1 h2⟩
theorem Zj0:∀ x y:List UInt8,Op.bytesLess x y = false → x ≠ y → Op.bytesLess y x = true
 | [],[]=>fun _ h=>absurd rfl h
 | _ :: _,[]=>fun _ _=>rfl
 | [],_ :: _=>fun h _=>by simp [Op.bytesLess] at h
 | a :: x,b :: y=>by
  intro h1 h2
  simp only [Op.bytesLess,Bool.or_eq_false_iff,decide_eq_false_iff_not,Zmj,ZlB,Zl0,ZlW] at h1 ⊢
  by_cases e:a = b
  ·subst e
   have:Op.bytesLess x y = false:=by simpa using h1.2
   exact .inr ⟨rfl,Zj0 x y this (fun h=>h2 (by rw [h]))⟩
  ·rcases UInt8.lt_or_lt_of_ne e with h | h
   ·exact absurd h h1.1
   ·exact .inl h
theorem toList_mk (l:List UInt8):(ByteArray.mk l.toArray).toList = l:=by
 exact (Lib.toList_data _)
theorem ZfQ (a b:Str):Str.ltb a b = Op.bytesLess a.bytes b.bytes:=by unfold Str.ltb; rw [toList_mk,toList_mk]
theorem Zck (a b:Str):Str.eqb a b = decide (a = b):=by
 unfold Str.eqb
 rw [toList_mk,toList_mk]
 by_cases h:a = b
 ·subst h; simp
 ·have : a.bytes ≠ b.bytes := fun e => h (by cases a; cases b; simpa using e)
  simp [h,this]
theorem Zjb (a:Str):Str.ltb a a = false:=by rw [ZfQ]; exact Zjv _
theorem lt_trans {a b c:Str} (h1:Str.ltb a b = true) (h2:Str.ltb b c = true):Str.ltb a c = true:=by rw [ZfQ] at *; exact ZgV _ _ _ h1 h2
theorem ZjA {a b:Str} (h1:Str.ltb a b = false) (h2:a ≠ b):Str.ltb b a = true:=by
 rw [ZfQ] at *
 exact Zj0 _ _ h1 fun e=>h2 (by cases a; cases b; simpa using e)
mutual
def vrs:D.Term → List (Str × Int)
 | ⟨o,w,_,s,k⟩=>if o = 22 then [(s,w)] else vrss k
def vrss:List D.Term → List (Str × Int)
 | []=>[]
 | x :: l=>vrs x ++ vrss l
end
theorem ZeY (t:D.Term):vrs t = if t.Op = 22 then [(t.Name,t.W)] else vrss t.Kids:=by cases t; rw [vrs]
theorem ZcQ (x:D.Term) (l:List D.Term):vrss (x :: l) = vrs x ++ vrss l:=by rw [vrss]
theorem Zdh:vrss [] = []:=by rw [vrss]
def stp (g:List (Str × Int)) (v:Str × Int):Option (List (Str × Int)):=
 match g.lookup v.1 with
 | some w=>if w = v.2 then some g else none
 | none=>some (v :: g)
def runV (g:List (Str × Int)):List (Str × Int) → Option (List (Str × Int))
 | []=>some g
 | v :: l=>(stp g v).bind fun g'=>runV g' l
theorem Zgq (l m:List (Str × Int)):∀ g,runV g (l ++ m) = (runV g l).bind fun g'=>runV g' m:=by
 induction l with
 | nil=>intro g; rfl
 | cons v l ih=>
  intro g
  simp only [List.cons_append,runV]
  cases stp g v with
  | none=>rfl
  | some g'=>simp only [Zlx]; exact ih g'
theorem ZhO {g g':List (Str × Int)} {v:Str × Int} (h:stp g v = some g'):g'.length ≤ g.length + 1:=by
 unfold stp at h
 split at h
 ·split at h
  ·cases h; omega
  ·cases h
 ·cases h; simp
theorem ZeE:∀ {l g g':List (Str × Int)},runV g l = some g' → g'.length ≤ g.length + l.length
 | [],g,g',h=>by simp only [runV,Option.some.injEq] at h; subst h; simp
 | v :: l,g,g',h=>by
  simp only [runV,Zmy] at h
  obtain ⟨g1,h1,h2⟩:=h
  have:=ZhO h1
  have:=ZeE h2
  simp only [ZlO]; omega
def Rel (l:List D.Value) (g:List (Str × Int)):Prop:=
 l.Pairwise (fun a b=>Str.ltb a.Name b.Name = true) ∧ l.length = g.length ∧ (∀ v ∈ l,g.lookup v.Name = some v.W) ∧ ∀ s w,g.lookup s = some w → ∃ v ∈ l,v.Name = s
def before (s:Str) (l:List D.Value):Nat:=(l.takeWhile fun v=>Str.ltb v.Name s).length
theorem ZdI (s:Str) (l:List D.Value):before s l ≤ l.length:=(List.takeWhile_sublist _).length_le
theorem ZcJ {s:Str}:∀ {l:List D.Value} {i:Nat} {v:D.Value},i < before s l → l[i]? = some v → Str.ltb v.Name s = true
 | [],i,v,h,hv=>by simp at hv
 | x :: l,i,v,h,hv=>by
  unfold before at h
  rw [List.takeWhile_cons] at h
  split at h
  ·cases i with
   | zero=>simp at hv; subst hv; assumption
   | succ i=>exact ZcJ (l:=l) (i:=i) (by unfold before; simpa using h) (by simpa using hv)
  ·simp at h
theorem ZcP {s:Str}:∀ {l:List D.Value} {v:D.Value},l[before s l]? = some v → Str.ltb v.Name s = false
 | [],v,hv=>by simp at hv
 | x :: l,v,hv=>by
  unfold before at hv
  rw [List.takeWhile_cons] at hv
  by_cases h:Str.ltb x.Name s = true
  ·rw [Zl6 h] at hv
   exact ZcP (l:=l) (by unfold before; simpa using hv)
  ·rw [Zl7 h] at hv
   simp at hv; subst hv
   simpa using h
theorem ZjE {l:List D.Value} {s:Str} {n:Nat} (hl:l.length ≤ 1048576) (hn:l.length < n):iterN (fun (s1:Int)=>
   (if (decide (s1 < (len l))) then (get? l s1) else some default).bind fun x1=>
   if ((decide (s1 < (len l))) && (Str.ltb x1.Name s)) then
    some (.inl ((w64 (s1 + 1))))
   else
    some (.inr (s1))
  ) n (0) = some (before s l:Int):=by
 obtain ⟨r,g1,g2⟩:=ZN (l:=l) (n:=n) (σ:=Unit) (ρ:=Int) (B:=fun (s1:Int)=>
   (if (decide (s1 < (len l))) then (get? l s1) else some default).bind fun x1=>
   if ((decide (s1 < (len l))) && (Str.ltb x1.Name s)) then
    some (.inl ((w64 (s1 + 1))))
   else
    some (.inr (s1))) (fun k _=>(k:Int)) (fun ys _=>l.length ≤ before s l + ys.length) (fun r=>r = (before s l:Int))
  (fun k x xs a hk' hx hlen hi => by
   simp only [ZlO] at hlen hi
   have hd:decide ((k:Int) < len l) = true:=by rw [Zg]; simp; omega
   rw [Zl6 hd,get?_nat,hx]
   simp only [Zlx,hd,ZlV]
   by_cases c:Str.ltb x.Name s = true
   ·refine .inl ⟨(), by rw [Zl6 c, Zk (by omega) (by omega)]; rfl, ?_⟩
    have:k ≠ before s l:=fun e=>by
     rw [e] at hx
     rw [ZcP hx] at c; cases c
    omega
   ·refine .inr ⟨(k : Int), by rw [Zl7 c], ?_⟩
    have:¬ k < before s l:=fun h=>c (ZcJ h hx)
    omega)
  (fun a hi => by
   have hd:decide ((l.length:Int) < len l) = false:=by rw [Zg]; simp
   simp only [hd,Zly,Zl4,Zlx,Zmt]
   have:=ZdI s l
   exact ⟨_,rfl,by simp at hi; omega⟩) (a:=()) (by omega) hn
 rw [show ((0:Nat):Int) = 0 from rfl] at g1
 rw [g1,g2]
theorem Rel.none {l:List D.Value} {g:List (Str × Int)} {s:Str} (h:Rel l g) (hn:∀ v,l[before s l]? = some v → v.Name ≠ s):g.lookup s = none:=by
 cases e:g.lookup s with
 | none=>rfl
 | some w=>
  exfalso
  obtain ⟨v,hv,rfl⟩:=h.2.2.2 s w e
  obtain ⟨j,hj⟩:=ZmD.1 hv
  rcases Znt j (before v.Name l) with h1 | h1 | h1
  ·have := ZcJ h1 hj
   rw [Zjb] at this; cases this
  ·rw [h1] at hj; exact hn v hj rfl
  ·obtain ⟨hj', e2⟩ := Zl2.1 hj
   have hu:l[before v.Name l]? = some l[before v.Name l]:=Zl1 (by omega)
   have h2:=ZcP hu
   have h3:=ZmG.1 h.1 _ _ (by omega) hj' h1
   rw [e2] at h3
   rw [h2] at h3; cases h3
theorem Rel.put {l:List D.Value} {g:List (Str × Int)} {s:Str} {w:Int} (h:Rel l g) (hn:∀ v,l[before s l]? = some v → v.Name ≠ s):Rel (l.take (before s l) ++ [⟨s,w,0⟩] ++ l.drop (before s l)) ((s,w) :: g):=by
 have hno:=h.none hn
 have hb:=ZdI s l
 have hlt:∀ v ∈ l.take (before s l),Str.ltb v.Name s = true:=fun v hv=>by
  obtain ⟨j,hj⟩:=ZmD.1 hv
  rw [Zmf] at hj
  split at hj
  ·exact ZcJ (by assumption) hj
  ·cases hj
 have hgt:∀ v ∈ l.drop (before s l),Str.ltb s v.Name = true:=fun v hv=>by
  obtain ⟨j,hj⟩:=ZmD.1 hv
  rw [Zmz] at hj
  obtain ⟨hj',e2⟩:=Zl2.1 hj
  have hu:l[before s l]? = some l[before s l]:=Zl1 (by omega)
  have h1:=ZjA (ZcP hu) (hn _ hu)
  rcases Nat.eq_zero_or_pos j with rfl | hp
  ·simp only [ZmX] at e2; rw [← e2]; exact h1
  ·have h3 := ZmG.1 h.1 _ _ (by omega) hj' (show before s l < before s l + j by omega)
   rw [e2] at h3
   exact lt_trans h1 h3
 have hmem:∀ v,v ∈ l.take (before s l) ++ [⟨s,w,0⟩] ++ l.drop (before s l) ↔ v = ⟨s,w,0⟩ ∨ v ∈ l:=fun v=>by
  have:v ∈ l ↔ v ∈ l.take (before s l) ∨ v ∈ l.drop (before s l):=by
   rw [← Zma,Znh]
  simp only [Zma,Zm7,this]
  grind
 have hp:(l.take (before s l) ++ l.drop (before s l)).Pairwise (fun a b=>Str.ltb a.Name b.Name = true):=by rw [Znh]; exact h.1
 rw [List.pairwise_append] at hp
 refine ⟨?_,?_,fun v hv=>?_,fun s' w' hs=>?_⟩
 ·rw [Zmw, List.pairwise_append]
  refine ⟨hp.1,?_,fun a ha b hb=>?_⟩
  ·rw [Zni, List.pairwise_cons]
   exact ⟨fun b hb=>hgt b hb,hp.2.1⟩
  ·rw [Zni] at hb
   rcases Zm5.1 hb with rfl | hb
   ·exact hlt a ha
   ·exact hp.2.2 a ha b hb
 ·have := h.2.1
  simp; omega
 ·rcases (hmem v).1 hv with rfl | hv
  ·simp
  ·have h1 := h.2.2.1 v hv
   have:v.Name ≠ s:=fun e=>by rw [e,hno] at h1; cases h1
   rw [ZlZ]
   have:(v.Name == s) = false:=by simpa using this
   rw [this]; exact h1
 ·rw [ZlZ] at hs
  by_cases e:s' = s
  ·exact ⟨_,(hmem _).2 (.inl rfl),e.symm⟩
  ·have : (s' == s) = false := by simpa using e
   rw [this] at hs
   obtain ⟨v,h1,h2⟩:=h.2.2.2 s' w' hs
   exact ⟨v,(hmem _).2 (.inr h1),h2⟩
theorem Zk6:∀ n:Nat,(∀ t:D.Term,msz t < n → (vrs t).length ≤ cnt t) ∧ ∀ l:List D.Term,l.length + mszs l < n → (vrss l).length ≤ cnts l:=by
 intro n
 induction n with
 | zero=>exact ⟨fun _ h=>by omega,fun _ h=>by omega⟩
 | succ n ih=>
  have hT:∀ t:D.Term,msz t < n + 1 → (∀ l:List D.Term,l.length + mszs l < n + 1 → (vrss l).length ≤ cnts l) → (vrs t).length ≤ cnt t:=fun t h hl=>by
   have:=XI t
   rw [ZeY,XC]
   split
   ·simp
   ·have:=hl t.Kids (by omega); omega
  have hL:∀ l:List D.Term,l.length + mszs l < n + 1 → (vrss l).length ≤ cnts l:=fun l h=>by
   cases l with
   | nil=>rw [Zdh,Za1]; simp
   | cons x l=>
    rw [XQ] at h
    simp only [ZlO] at h
    rw [ZcQ,X6,ZlQ]
    have h1:=ih.1 x (by omega)
    have h2:=ih.2 l (by omega)
    omega
  exact ⟨fun t h=>hT t h hL,hL⟩
theorem ZiY (t:D.Term):(vrs t).length ≤ cnt t:=(Zk6 (msz t + 1)).1 t (by omega)
theorem Ziy:∀ (n:Nat) (t:D.Term) (l:List D.Value) (g:List (Str × Int)),msz t ≤ 1048576 → Rel l g → g.length + (vrs t).length ≤ 1000 → 1048580 + cnt t ≤ n →
  ∃ l' b,YT n t l = some (l',b) ∧ (b = true → ∃ g',runV g (vrs t) = some g' ∧ Rel l' g') ∧ (b = false → runV g (vrs t) = none):=by
 intro n
 induction n with
 | zero=>intro t l g _ _ _ _; omega
 | succ n ih=>
  intro t l g hs hr hg hn
  have hz:=XI t
  have hc:=XC t
  have hlen:=hr.2.1
  unfold YT
  by_cases ho:t.Op = 22
  ·rw [Zl6 (by simpa using ho), ZjE (by omega) (by omega)]
   simp only [Zlx]
   have hb:=ZdI t.Name l
   have hv:vrs t = [(t.Name,t.W)]:=by rw [ZeY,Zl6 ho]
   rw [hv]
   have hrun:runV g [(t.Name,t.W)] = stp g (t.Name,t.W):=by
    simp only [runV]; cases stp g (t.Name,t.W) <;> rfl
   rw [hrun]
   by_cases hf:∃ v,l[before t.Name l]? = some v ∧ v.Name = t.Name
   ·obtain ⟨v, hv1, hv2⟩ := hf
    obtain ⟨hlt,-⟩:=Zl2.1 hv1
    have hd:decide ((before t.Name l:Int) < len l) = true:=by rw [Zg]; simp; omega
    have hk:g.lookup t.Name = some v.W:=by rw [← hv2]; exact hr.2.2.1 v (ZlC hv1)
    simp only [hd,ZlL,get?_nat,hv1,Zlx,ZlV,Zck,hv2,decide_true]
    refine ⟨_,_,rfl,fun h=>⟨g,?_,hr⟩,fun h=>?_⟩
    ·unfold stp; rw [hk]; simp only; rw [Zl6 (by simpa using h)]
    ·unfold stp; rw [hk]; simp only; rw [Zl7 (by simpa using h)]
   ·have hne : ∀ v, l[before t.Name l]? = some v → v.Name ≠ t.Name := fun v h e => hf ⟨v, h, e⟩
    have hno:=hr.none hne
    have hx:∃ x2,(if (decide ((before t.Name l:Int) < (len l))) = true then (get? l (before t.Name l:Int)) else some default) = some x2 ∧ (decide ((before t.Name l:Int) < (len l)) && Str.eqb x2.Name t.Name) = false:=by
     by_cases hlt:before t.Name l < l.length
     ·have hd : decide ((before t.Name l : Int) < len l) = true := by rw [Zg]; simp; omega
      refine ⟨l[before t.Name l],?_,?_⟩
      ·rw [Zl6 hd,get?_nat,Zl1 hlt]
      ·rw [Zck,decide_eq_false (hne _ (Zl1 hlt))]; simp
     ·have hd : decide ((before t.Name l : Int) < len l) = false := by rw [Zg]; simp; omega
      exact ⟨default,by rw [hd]; rfl,by rw [hd]; rfl⟩
    obtain ⟨x2,hx1,hx2⟩:=hx
    rw [hx1]
    simp only [Zlx,hx2,Zly,Zl4]
    have c1:cut? l 0 (before t.Name l:Int) = some (l.take (before t.Name l)):=by
     unfold cut?; rw [Zl6 ⟨by omega,by omega,by omega⟩]; simp
    have c2:cut? l (before t.Name l:Int) (len l) = some (l.drop (before t.Name l)):=by
     unfold cut?; rw [Zg,Zl6 ⟨by omega,by omega,by omega⟩]; simp
    have c3:app? ([]:List D.Value) (l.take (before t.Name l)) = some (l.take (before t.Name l)):=by
     unfold app?; rw [Zl6 (by unfold room; simp; omega)]; rfl
    have c4:app? (l.take (before t.Name l)) [(⟨t.Name,t.W,0⟩ : D.Value)] = some (l.take (before t.Name l) ++ [⟨t.Name,t.W,0⟩]):=by
     unfold app?; rw [Zl6 (by unfold room; simp; omega)]
    have c5:app? (l.take (before t.Name l) ++ [(⟨t.Name,t.W,0⟩ : D.Value)]) (l.drop (before t.Name l)) = some (l.take (before t.Name l) ++ [⟨t.Name,t.W,0⟩] ++ l.drop (before t.Name l)):=by
     unfold app?; rw [Zl6 (by unfold room; simp; omega)]
    simp only [c1,c2,c3,c4,c5,Zlx]
    refine ⟨_,_,rfl,fun _=>⟨(t.Name,t.W) :: g,?_,hr.put hne⟩,fun h=>by cases h⟩
    unfold stp; rw [hno]
  ·rw [Zl7 (by simpa using ho)]
   have hv:vrs t = vrss t.Kids:=by rw [ZeY,Zl7 ho]
   rw [hv] at hg ⊢
   obtain ⟨r,g1,g2⟩:=ZN (l:=t.Kids) (n:=n) (σ:=List D.Value) (ρ:=(List D.Value) ⊕ ((List D.Value) × Bool)) (B:=fun (s2:(List D.Value) × Int)=>
     if (decide (s2.2 < (len t.Kids))) then
      (get? t.Kids s2.2).bind fun x9=>
      (YT n x9 s2.1).bind fun x10=>
      if (!x10.2) then
       some (.inr (.inr (([]:List D.Value),false)))
      else
       some (.inl (x10.1,(w64 (s2.2 + 1))))
     else
      some (.inr (.inl (s2.1)))) (fun k a=>(a,(k:Int))) (fun ys a=>∃ ga,Rel a ga ∧ runV ga (vrss ys) = runV g (vrss t.Kids) ∧ ga.length + (vrss ys).length ≤ 1000 ∧ ∀ x ∈ ys,x ∈ t.Kids)
     (fun r=>(∃ l',r = .inl l' ∧ ∃ g',runV g (vrss t.Kids) = some g' ∧ Rel l' g') ∨ (r = .inr ([],false) ∧ runV g (vrss t.Kids) = none))
     (fun k x xs a hk' hx hlen ⟨ga, i0, i1, i2, i3⟩ => by
      have hxk:=i3 x (by simp)
      have:=Xo hxk
      have:=Zb3 hxk
      rw [ZcQ,Zgq] at i1
      rw [ZcQ,ZlQ] at i2
      obtain ⟨l',b,e1,e2,e3⟩:=ih x a ga (by omega) i0 (by omega) (by omega)
      have hd:decide ((k:Int) < len t.Kids) = true:=by rw [Zg]; simp; omega
      simp only [hd,ZlL,get?_nat,hx,Zlx,e1]
      cases b with
      | false=>
       refine .inr ⟨_,rfl,.inr ⟨rfl,?_⟩⟩
       rw [e3 rfl] at i1; exact i1.symm
      | true=>
       obtain ⟨g',h1,h2⟩:=e2 rfl
       refine .inl ⟨l',by simp only [ZlD,Zly,Zl4]; rw [Zk (by omega) (by omega)]; rfl,g',h2,?_,?_,fun y hy=>i3 y (by simp [hy])⟩
       ·rw [h1] at i1; exact i1
       ·have:=ZeE h1; omega)
     (fun a ⟨ga, i0, i1, i2, i3⟩ => by
      have hd:decide ((t.Kids.length:Int) < len t.Kids) = false:=by rw [Zg]; simp
      simp only [hd,Zly,Zl4]
      rw [Zdh] at i1
      exact ⟨_,rfl,.inl ⟨a,rfl,ga,i1.symm,i0⟩⟩) (a:=l) ⟨g,hr,rfl,hg,fun x hx=>hx⟩ (by omega)
   rw [show ((0:Nat):Int) = 0 from rfl] at g1
   rw [g1]
   rcases g2 with ⟨l',rfl,g',h1,h2⟩ | ⟨rfl,h1⟩
   ·exact ⟨l',true,rfl,fun _=>⟨g',h1,h2⟩,fun h=>by cases h⟩
   ·exact ⟨[],false,rfl,fun h=>(by cases h),fun _=>h1⟩
def termB (t:D.Term):Bool:=decide (cnt t ≤ 240) && nodeB t && (runV [] (vrs t)).isSome
theorem ZdQ {t:D.Term} (h:msz t ≤ 1048576):Xl fuel t = some (termB t):=by
 unfold Xl termB
 rw [few fuel t 240 h (by omega) (by omega) (by unfold fuel; omega)]
 simp only [Zlx]
 by_cases hc:cnt t ≤ 240
 ·have e : decide (lf 240 (cnt t) ≥ 0) = true := by unfold lf; rw [Zl7 (by omega)]; simp; omega
  rw [ZiC fuel t h (by unfold fuel; omega)]
  simp only [e,ZlD,Zly,Zl4,Zlx,hc,decide_true,ZlV]
  cases hb:nodeB t
  ·simp
  ·have hv := ZiY t
   obtain ⟨l',b,e1,e2,e3⟩:=Ziy fuel t [] [] h ⟨List.Pairwise.nil,rfl,by simp,by simp⟩ (by simp; omega) (by unfold fuel; omega)
   rw [e1]
   cases b with
   | false=>rw [e3 rfl]; rfl
   | true=>obtain ⟨g',h1,-⟩:=e2 rfl; rw [h1]; rfl
 ·have e : decide (lf 240 (cnt t) ≥ 0) = false := by unfold lf; rw [Zl6 (by omega)]; rfl
  simp [e,hc]
theorem Zim {n:Nat} {s:Str} (hl:s.bytes.length ≤ 1048576) (hn:s.bytes.length < n):Zbb n s = some (nameB s):=by
 unfold Zbb
 by_cases hlen:1 ≤ s.bytes.length ∧ s.bytes.length ≤ 8
 ·rw [Zl7 (by rw [Zg]; simp; omega)]
  obtain ⟨r,g1,g2⟩:=ZN (l:=s.bytes) (n:=n) (σ:=Unit) (ρ:=Unit ⊕ Bool) (B:=fun (s1:Int)=>
   if (decide (s1 < (len s.bytes))) then
    (sidx? s s1).bind fun x1=>
    (if (decide (x1 ≥ 97)) then (sidx? s s1) else some default).bind fun x2=>
    (sidx? s s1).bind fun x3=>
    (if (decide (x3 ≥ 48)) then (sidx? s s1) else some default).bind fun x4=>
    if ((!((decide (x1 ≥ 97)) && (decide (x2 ≤ 122)))) && (!(((decide (x3 ≥ 48)) && (decide (x4 ≤ 57))) && (decide (s1 > 0))))) then
     some (.inr (.inr false))
    else
     some (.inl ((w64 (s1 + 1))))
   else
    some (.inr (.inl ()))) (fun k _=>(k:Int)) (fun ys _=>okF (s.bytes.length - ys.length) ys = okF 0 s.bytes) (fun r=>r = if okF 0 s.bytes then (.inl ():Unit ⊕ Bool) else .inr false)
   (fun k x xs a hk' hx hlen hi => by
    have e1:s.bytes.length - (x :: xs).length = k:=by omega
    have e2:s.bytes.length - xs.length = k + 1:=by simp at hlen; omega
    rw [e1] at hi
    rw [e2]
    have hb:=x.toNat_lt
    rw [← hi]
    simp only [Zgf hx,Zlx]
    rw [Zl6 (by rw [Zg]; simp; omega),Zk (by omega) (by omega)]
    have hd:∀ c:Bool,∃ y:Int,(if c = true then (some (x.toNat:Int)) else some default) = some y ∧ (c = true → y = x.toNat):=fun c=>by
     cases c
     ·exact ⟨_,rfl,fun h=>by cases h⟩
     ·exact ⟨_,rfl,fun _=>rfl⟩
    obtain ⟨y2,h2,i2⟩:=hd (decide ((x.toNat:Int) ≥ 97))
    obtain ⟨y4,h4,i4⟩:=hd (decide ((x.toNat:Int) ≥ 48))
    rw [h2,h4]
    simp only [Zlx]
    have j2:(decide ((x.toNat:Int) ≥ 97) && decide (y2 ≤ 122)) = decide (97 ≤ x.toNat ∧ x.toNat ≤ 122):=by
     by_cases c:(x.toNat:Int) ≥ 97
     ·rw [i2 (by simpa using c),ZmQ]; simp only [Zl0,ZlB]; omega
     ·rw [ZmQ]; simp only [Zl0,ZlB]; omega
    have j4:(decide ((x.toNat:Int) ≥ 48) && decide (y4 ≤ 57)) = decide (48 ≤ x.toNat ∧ x.toNat ≤ 57):=by
     by_cases c:(x.toNat:Int) ≥ 48
     ·rw [i4 (by simpa using c),ZmQ]; simp only [Zl0,ZlB]; omega
     ·rw [ZmQ]; simp only [Zl0,ZlB]; omega
    rw [j2,j4,Zg5]
    by_cases c1:97 ≤ x.toNat ∧ x.toNat ≤ 122
    ·exact .inl ⟨(),by simp [c1],by simp [c1]⟩
    ·by_cases c3 : 48 ≤ x.toNat ∧ x.toNat ≤ 57
     ·by_cases c2 : k = 0
      ·subst c2
       exact .inr ⟨.inr false,by simp [c1,c3],by simp [c1]⟩
      ·have : (0 : Int) < (k : Int) := by omega
       exact .inl ⟨(),by simp [c1,c3,this,c2],by simp [c1,c2,c3]⟩
     ·exact .inr ⟨.inr false,by simp [c1,c3],by simp [c1,c3]⟩)
   (fun a hi => by
    rw [Zl7 (by rw [Zg]; simp)]
    refine ⟨_,rfl,?_⟩
    rw [← hi]; simp [okF]) (a:=()) (by simp) hn
  rw [show ((0:Nat):Int) = 0 from rfl] at g1
  rw [g1,g2]
  unfold nameB
  rw [decide_eq_true hlen]
  cases okF 0 s.bytes <;> rfl
 ·rw [Zl6 (by rw [Zg]; simp; omega)]
  unfold nameB
  rw [decide_eq_false hlen]; simp
def kc (o:Int):Int:=(YG o).getD 0
theorem Zlh (o:Int):YG o = some (kc o):=by
 unfold kc
 have:∃ k,YG o = some k:=by
  unfold YG
  split
  ·exact ⟨_,rfl⟩
  ·split
   ·exact ⟨_,rfl⟩
   ·split
    ·exact ⟨_,rfl⟩
    ·split
     ·exact ⟨_,rfl⟩
     ·exact ⟨_,rfl⟩
 obtain ⟨k,h⟩:=this
 rw [h]; rfl
theorem ZgN (w:Int):ZQ w = some (decide (1 ≤ w ∧ w ≤ 16)):=by simp [ZQ]
theorem Zki {t:D.Term} (hw:1 ≤ t.W ∧ t.W ≤ 16) (hk:∀ x ∈ t.Kids,1 ≤ x.W ∧ x.W ≤ 16) (hl:(t.Kids.length:Int) = kc t.Op) :
  ∃ f,Zaf t = some f ∧ shB t.Op t.W t.N t.Name (t.Kids.map (·.W)) = (f && (t.Op != 0 || wordB t.W t.N) && (t.Op != 22 || nameB t.Name)):=by
 obtain ⟨op,w,m,nm,ks⟩:=t
 simp only at hw hk hl ⊢
 unfold Zaf shB
 simp only
 have g0:∀ (x:D.Term) (l:List D.Term),get? (x :: l) 0 = some x:=fun _ _=>rfl
 have g1:∀ (x y:D.Term) (l:List D.Term),get? (x :: y :: l) 1 = some y:=fun _ _ _=>rfl
 have g2:∀ (x y z:D.Term) (l:List D.Term),get? (x :: y :: z :: l) 2 = some z:=fun _ _ _ _=>rfl
 have l0:ks.length = 0 → ks = []:=fun h=>Zm0.1 h
 have l1:ks.length = 1 → ∃ a,ks = [a]:=fun h=>List.length_eq_one_iff.1 h
 have l2:ks.length = 2 → ∃ a b,ks = [a,b]:=fun h=>by
  rcases ks with _ | ⟨a,_ | ⟨b,_ | ⟨c,l⟩⟩⟩ <;> simp at h
  exact ⟨_,_,rfl⟩
 have l3:ks.length = 3 → ∃ a b c,ks = [a,b,c]:=fun h=>by
  rcases ks with _ | ⟨a,_ | ⟨b,_ | ⟨c,_ | ⟨d,l⟩⟩⟩⟩ <;> simp at h
  exact ⟨_,_,_,rfl⟩
 unfold kc YG at hl
 by_cases o0:op = 0
 ·subst o0
  obtain rfl:=l0 (by simp at hl; simp [hl])
  exact ⟨true,by simp,by simp⟩
 by_cases o1:op = 22
 ·subst o1
  obtain rfl:=l0 (by simp at hl; simp [hl])
  exact ⟨true,by simp,by simp⟩
 have q0:(op != 0) = true:=by simpa using o0
 have q1:(op != 22) = true:=by simpa using o1
 by_cases o2:1 ≤ op ∧ op ≤ 2
 ·have : op = 1 ∨ op = 2 := by omega
  obtain ⟨a,rfl⟩:=l1 (by rcases this with rfl | rfl <;> simp at hl <;> omega)
  refine ⟨a.W == w,?_,?_⟩
  ·rcases this with rfl | rfl <;> simp [g0]
  ·simp [o0,o1,o2,q0,q1]
 by_cases o3:3 ≤ op ∧ op ≤ 13
 ·obtain ⟨a,b,rfl⟩:=l2 (by
   have h1:¬ (op = 1):=by omega
   have h2:¬ (op = 2):=by omega
   have h3:¬ (op = 19):=by omega
   have h4:¬ (op = 20):=by omega
   have h5:¬ (op = 21):=by omega
   have h6:3 ≤ op ∧ op ≤ 16:=by omega
   simp [o0,o1,h1,h2,h3,h4,h5,h6] at hl; omega)
  refine ⟨a.W == w && b.W == w,?_,?_⟩
  ·have h1 : ¬ (op = 1) := by omega
   have h2:¬ (op = 2):=by omega
   by_cases c:a.W = w
   ·simp [g0,g1,o0,o1,h1,h2,o3,c]
   ·have c' : (a.W == w) = false := by simpa using c
    simp [g0,g1,o0,o1,h1,h2,o3,c,c']
  ·simp [o0,o1,o2,o3,q0,q1]
 by_cases o4:14 ≤ op ∧ op ≤ 16
 ·obtain ⟨a,b,rfl⟩:=l2 (by
   have h1:¬ (op = 1):=by omega
   have h2:¬ (op = 2):=by omega
   have h3:¬ (op = 19):=by omega
   have h4:¬ (op = 20):=by omega
   have h5:¬ (op = 21):=by omega
   have h6:3 ≤ op ∧ op ≤ 16:=by omega
   simp [o0,o1,h1,h2,h3,h4,h5,h6] at hl; omega)
  refine ⟨a.W == b.W && w == 1,?_,?_⟩
  ·have h1 : ¬ (op = 1) := by omega
   have h2:¬ (op = 2):=by omega
   simp [g0,g1,o0,o1,h1,h2,o3,o4]
  ·simp [o0,o1,o2,o3,o4,q0,q1]
 by_cases o5:op = 17
 ·subst o5
  obtain ⟨a,b,c,rfl⟩:=l3 (by simp at hl; omega)
  refine ⟨a.W == 1 && b.W == w && c.W == w,?_,?_⟩
  ·by_cases c1 : a.W = 1
   ·by_cases c2 : b.W = w
    ·simp [g0,g1,g2,c1,c2]
    ·have c2' : (b.W == w) = false := by simpa using c2
     simp [g0,g1,g2,c1,c2,c2']
   ·have c1' : (a.W == 1) = false := by simpa using c1
    simp [g0,g1,g2,c1,c1']
  ·simp
 by_cases o6:op = 18
 ·subst o6
  obtain ⟨a,b,rfl⟩:=l2 (by simp at hl; omega)
  have ha:=hk a (by simp)
  have hb:=hk b (by simp)
  have e18:w64 (a.W + b.W) = a.W + b.W:=Zk (by omega) (by omega)
  exact ⟨a.W + b.W == w,by simp [g0,g1,e18],by simp⟩
 by_cases o7:op = 19
 ·subst o7
  obtain ⟨a,rfl⟩:=l1 (by simp at hl; omega)
  have ha:=hk a (by simp)
  have e19:w64 (a.W - w) = a.W - w:=Zk (by omega) (by omega)
  refine ⟨decide (0 ≤ m) && decide (m ≤ a.W - w),?_,?_⟩
  ·by_cases c : 0 ≤ m
   ·simp [g0,e19,c]
   ·simp [g0,e19,c]
  ·simp only [ZlK, ZmP]
   rw [ZmQ]
   simp
   omega
 by_cases o8:20 ≤ op ∧ op ≤ 21
 ·have : op = 20 ∨ op = 21 := by omega
  obtain ⟨a,rfl⟩:=l1 (by rcases this with rfl | rfl <;> simp at hl <;> omega)
  refine ⟨decide (a.W ≤ w),?_,?_⟩
  ·rcases this with rfl | rfl <;> simp [g0]
  ·rcases this with rfl | rfl <;> simp
 exfalso
 have h1:¬ (op = 1):=by omega
 have h2:¬ (op = 2):=by omega
 have h4:¬ (op = 20):=by omega
 have h5:¬ (op = 21):=by omega
 have h6:¬ (3 ≤ op ∧ op ≤ 16):=by omega
 simp [o0,o1,h1,h2,o7,h4,h5,h6,o6,o5] at hl
theorem Zk2 {t:D.Term} (hl:¬ (t.Kids.length:Int) = kc t.Op):shB t.Op t.W t.N t.Name (t.Kids.map (·.W)) = false:=by
 obtain ⟨op,w,m,nm,ks⟩:=t
 simp only at hl ⊢
 unfold shB
 unfold kc YG at hl
 have hks:ks = [] ∨ (∃ a:D.Term,ks = [a]) ∨ (∃ a b:D.Term,ks = [a,b]) ∨ (∃ a b c:D.Term,ks = [a,b,c]) ∨ ∃ (a b c d:D.Term) (l:List D.Term),ks = a :: b :: c :: d :: l:=by
  rcases ks with _ | ⟨a,_ | ⟨b,_ | ⟨c,_ | ⟨d,l⟩⟩⟩⟩
  ·exact .inl rfl
  ·exact .inr (.inl ⟨a,rfl⟩)
  ·exact .inr (.inr (.inl ⟨a,b,rfl⟩))
  ·exact .inr (.inr (.inr (.inl ⟨a,b,c,rfl⟩)))
  ·exact .inr (.inr (.inr (.inr ⟨a,b,c,d,l,rfl⟩)))
 by_cases o0:op = 0
 ·subst o0
  rcases hks with rfl | ⟨a,rfl⟩ | ⟨a,b,rfl⟩ | ⟨a,b,c,rfl⟩ | ⟨a,b,c,d,l,rfl⟩ <;> simp at hl ⊢
 by_cases o1:op = 22
 ·subst o1
  rcases hks with rfl | ⟨a,rfl⟩ | ⟨a,b,rfl⟩ | ⟨a,b,c,rfl⟩ | ⟨a,b,c,d,l,rfl⟩ <;> simp at hl ⊢
 by_cases o2:1 ≤ op ∧ op ≤ 2
 ·have : op = 1 ∨ op = 2 := by omega
  rcases this with rfl | rfl <;> rcases hks with rfl | ⟨a,rfl⟩ | ⟨a,b,rfl⟩ | ⟨a,b,c,rfl⟩ | ⟨a,b,c,d,l,rfl⟩ <;> simp at hl ⊢
 have h1:¬ (op = 1):=by omega
 have h2:¬ (op = 2):=by omega
 by_cases o3:3 ≤ op ∧ op ≤ 13
 ·have h3 : ¬ (op = 19) := by omega
  have h4:¬ (op = 20):=by omega
  have h5:¬ (op = 21):=by omega
  have h6:3 ≤ op ∧ op ≤ 16:=by omega
  simp [o0,o1,h1,h2,h3,h4,h5,h6] at hl
  rcases hks with rfl | ⟨a,rfl⟩ | ⟨a,b,rfl⟩ | ⟨a,b,c,rfl⟩ | ⟨a,b,c,d,l,rfl⟩ <;> simp [o0,o1,o2,o3] at hl ⊢
 by_cases o4:14 ≤ op ∧ op ≤ 16
 ·have h3 : ¬ (op = 19) := by omega
  have h4:¬ (op = 20):=by omega
  have h5:¬ (op = 21):=by omega
  have h6:3 ≤ op ∧ op ≤ 16:=by omega
  simp [o0,o1,h1,h2,h3,h4,h5,h6] at hl
  rcases hks with rfl | ⟨a,rfl⟩ | ⟨a,b,rfl⟩ | ⟨a,b,c,rfl⟩ | ⟨a,b,c,d,l,rfl⟩ <;> simp [o0,o1,o2,o3,o4] at hl ⊢
 by_cases o5:op = 17
 ·subst o5
  rcases hks with rfl | ⟨a,rfl⟩ | ⟨a,b,rfl⟩ | ⟨a,b,c,rfl⟩ | ⟨a,b,c,d,l,rfl⟩ <;> simp at hl ⊢
 by_cases o6:op = 18
 ·subst o6
  rcases hks with rfl | ⟨a,rfl⟩ | ⟨a,b,rfl⟩ | ⟨a,b,c,rfl⟩ | ⟨a,b,c,d,l,rfl⟩ <;> simp at hl ⊢
 by_cases o7:op = 19
 ·subst o7
  rcases hks with rfl | ⟨a,rfl⟩ | ⟨a,b,rfl⟩ | ⟨a,b,c,rfl⟩ | ⟨a,b,c,d,l,rfl⟩ <;> simp at hl ⊢
 by_cases o8:20 ≤ op ∧ op ≤ 21
 ·have : op = 20 ∨ op = 21 := by omega
  rcases this with rfl | rfl <;> rcases hks with rfl | ⟨a,rfl⟩ | ⟨a,b,rfl⟩ | ⟨a,b,c,rfl⟩ | ⟨a,b,c,d,l,rfl⟩ <;> simp at hl ⊢
 simp [o0,o1,o2,o3,o4,o5,o6,o7,o8]
abbrev tab (m:Option (List (Str × Int))):List (Str × Int):=m.getD []
theorem get2 {g:List (Str × Int)} {s:Str} (hs:s.bytes.length ≤ 1048576):mget2? fitS (0:Int) g s = some ((g.lookup s).getD 0,(g.lookup s).isSome):=by
 unfold mget2?
 rw [Zl6 (by unfold fitS; simp; omega)]
theorem put1 {g:List (Str × Int)} {s:Str} {w:Int} (hs:s.bytes.length ≤ 1048576) (hw:1 ≤ w ∧ w ≤ 16) (hg:g.length ≤ 1000):mputE? fitS fitZ g s w = some ((s,w) :: g):=by
 unfold mputE?
 rw [Zl6 ⟨by unfold fitS; simp; omega,by unfold fitZ; simp [Lit.wf]; exact ⟨by show (-9223372036854775808:Int) ≤ w; omega,by omega⟩,by unfold room; omega⟩]
theorem Zjy {n:Nat} {c:D.termCheck} {t:D.Term} (hs:t.Name.bytes.length ≤ 1048576) (hn:1048580 ≤ n) (hw:1 ≤ t.W ∧ t.W ≤ 16) (hg:(tab c.widths).length ≤ 1000) :
  ∃ b m,Yw n c t = some (b,⟨c.count,m⟩) ∧ (b = true → nameB t.Name = true ∧ stp (tab c.widths) (t.Name,t.W) = some (tab m)) ∧ (b = false → nameB t.Name = false ∨ stp (tab c.widths) (t.Name,t.W) = none):=by
 obtain ⟨cc,ww⟩:=c
 unfold Yw
 rw [Zim hs (by omega)]
 simp only [Zlx]
 cases hb:nameB t.Name
 ·exact ⟨false,ww,rfl,fun h=>(by cases h),fun _=>.inl rfl⟩
 ·simp only [ZlD, Zly, Zl4]
  cases ww with
  | none=>
   simp only [Option.isNone_none,ZlL]
   rw [get2 hs]
   simp only [Zlx,List.lookup_nil,Option.isSome_none,Zly,Zl4]
   rw [put1 hs hw (by simp)]
   exact ⟨true,_,rfl,fun _=>⟨trivial,rfl⟩,fun h=>(by cases h)⟩
  | some g=>
   simp only [Option.isNone_some,Zly,Zl4,ZlT]
   rw [get2 hs]
   simp only [Zlx]
   unfold stp
   simp only [tab,ZlT] at hg ⊢
   cases hl:g.lookup t.Name with
   | some w=>
    simp only [Option.isSome_some,ZlL,ZlT]
    refine ⟨_,_,rfl,fun h=>⟨trivial,?_⟩,fun h=>.inr ?_⟩
    ·rw [Zl6 (by simpa using h)]; rfl
    ·rw [Zl7 (by simpa using h)]
   | none=>
    simp only [Option.isSome_none,Zly,Zl4]
    rw [put1 hs hw hg]
    exact ⟨true,_,rfl,fun _=>⟨trivial,rfl⟩,fun h=>(by cases h)⟩
theorem Zfw {n:Nat} {ks:List D.Term} {c0:Int} {w0:Option (List (Str × Int))} (hn:1048580 ≤ n) (hks:ks.length ≤ 1048576) (hc:0 ≤ c0) (hc':c0 ≤ 240) (hg:(tab w0).length ≤ c0)
    (ih:∀ x ∈ ks,∀ c:D.termCheck,c0 ≤ c.count → c.count ≤ 240 → (tab c.widths).length ≤ c.count → ∃ b c',Z9 n c x = some (b,c') ∧
      (b = true → c.count + cnt x ≤ 240 ∧ nodeB x = true ∧ c'.count = c.count + cnt x ∧ runV (tab c.widths) (vrs x) = some (tab c'.widths)) ∧ (b = false → ¬ (c.count + cnt x ≤ 240 ∧ nodeB x = true ∧ (runV (tab c.widths) (vrs x)).isSome = true))) :
    ∃ r,iterN (fun (s2:Int × Int × (Option (List (Str × Int))))=>
        if (decide (s2.1 < (len ks))) then
          (get? ks s2.1).bind fun x7=>
          (Z9 n (D.termCheck.mk s2.2.1 s2.2.2) x7).bind fun x8=>
          if (!x8.1) then
            some (.inr (.inr (false,x8.2)))
          else
            some (.inl ((w64 (s2.1 + 1)),x8.2.count,x8.2.widths))
        else
          some (.inr (.inl (s2.2.1,s2.2.2)))
      ) n (0,c0,w0) = some (r:(Int × (Option (List (Str × Int)))) ⊕ (Bool × D.termCheck)) ∧
      ((∃ cc ww, r = .inl (cc, ww) ∧ cc = c0 + cnts ks ∧ cc ≤ 240 ∧ nodesB ks = true ∧ runV (tab w0) (vrss ks) = some (tab ww)) ∨
       ∃ c',r = .inr (false,c') ∧ ¬ (c0 + cnts ks ≤ 240 ∧ nodesB ks = true ∧ (runV (tab w0) (vrss ks)).isSome = true)):=by
  have hrl:=ZiY
  exact ZN (l := ks) (n := n) (σ := Int × (Option (List (Str × Int)))) (ρ := (Int × (Option (List (Str × Int)))) ⊕ (Bool × D.termCheck)) (B := fun (s2 : Int × Int × (Option (List (Str × Int)))) =>
        if (decide (s2.1 < (len ks))) then
          (get? ks s2.1).bind fun x7=>
          (Z9 n (D.termCheck.mk s2.2.1 s2.2.2) x7).bind fun x8=>
          if (!x8.1) then
            some (.inr (.inr (false,x8.2)))
          else
            some (.inl ((w64 (s2.1 + 1)),x8.2.count,x8.2.widths))
        else
          some (.inr (.inl (s2.2.1,s2.2.2)))) (fun k a=>((k:Int),a.1,a.2))
      (fun ys a=>c0 ≤ a.1 ∧ a.1 ≤ 240 ∧ (tab a.2).length ≤ a.1 ∧ a.1 + cnts ys = c0 + cnts ks ∧ nodesB ys = nodesB ks ∧ runV (tab a.2) (vrss ys) = runV (tab w0) (vrss ks) ∧ ∀ x ∈ ys,x ∈ ks) _
      (fun k x xs a hk' hx hlen ⟨i0,i1,i2,i3,i4,i5,i6⟩=>by
        obtain ⟨ac,aw⟩:=a
        simp only at i0 i1 i2 i3 i5
        rw [X6] at i3
        rw [ZL,Znc,← ZL] at i4
        rw [ZcQ,Zgq] at i5
        have hd:decide ((k:Int) < len ks) = true:=by rw [Zg]; simp; omega
        obtain ⟨b,c',e1,e2,e3⟩:=ih x (i6 x (by simp)) ⟨ac,aw⟩ i0 i1 i2
        simp only [hd,ZlL,get?_nat,hx,Zlx,e1]
        cases b with
        | false =>
          refine .inr ⟨_,rfl,.inr ⟨c',rfl,fun ⟨h1,h2,h3⟩=>e3 rfl ⟨?_,?_,?_⟩⟩⟩
          · simp only; omega
          · rw [← i4,Zl0] at h2; exact h2.1
          · rw [← i5] at h3
            simp only
            cases hq:runV (tab aw) (vrs x) with
            | none=>rw [hq] at h3; cases h3
            | some _=>rfl
        | true =>
          obtain ⟨h1,h2,h3,h4⟩:=e2 rfl
          simp only at h1 h3 h4
          refine .inl ⟨(c'.count,c'.widths),by simp only [ZlD,Zly,Zl4]; rw [Zk (by omega) (by omega)]; rfl,by simp only; omega,by simp only; omega,?_,by simp only; omega,by rw [← i4,h2,ZlV],?_,fun y hy=>i6 y (by simp [hy])⟩
          · have := ZeE h4
            have:=hrl x
            simp only; omega
          · rw [h4] at i5; exact i5)
      (fun a ⟨i0,i1,i2,i3,i4,i5,i6⟩=>by
        obtain ⟨ac,aw⟩:=a
        have hd:decide ((ks.length:Int) < len ks) = false:=by rw [Zg]; simp
        simp only [hd,Zly,Zl4]
        rw [Za1] at i3
        rw [Zdh] at i5
        refine ⟨_,rfl,.inl ⟨ac,aw,rfl,by simp only at i3; omega,i1,?_,i5.symm⟩⟩
        rw [← i4,ZL]; rfl) (a:=(c0,w0)) ⟨by simp only; omega,hc',hg,rfl,rfl,rfl,fun x hx=>hx⟩ (by omega)
def wsB (ks:List D.Term):Bool:=ks.all fun x=>decide (1 ≤ x.W ∧ x.W ≤ 16)
theorem Zlb {ks:List D.Term} (h:nodesB ks = true):wsB ks = true:=by
 rw [ZL,Zl8] at h
 unfold wsB
 rw [Zl8]
 exact fun x hx=>decide_eq_true (YB (h x hx))
theorem Zhy {n:Nat} {ks:List D.Term} {v:Bool × D.termCheck} (hn:ks.length < n) (hk:ks.length ≤ 1048576):iterN (fun (s1:Int)=>
   if (decide (s1 < (len ks))) then
    (get? ks s1).bind fun x3=>
    (ZQ x3.W).bind fun x4=>
    if (!x4) then
     some (.inr (.inr v))
    else
     some (.inl ((w64 (s1 + 1))))
   else
    some (.inr (.inl ()))
  ) n (0) = some (if wsB ks = true then (.inl ():Unit ⊕ (Bool × D.termCheck)) else .inr v):=by
 obtain ⟨r,g1,g2⟩:=ZN (l:=ks) (n:=n) (σ:=Unit) (ρ:=Unit ⊕ (Bool × D.termCheck)) (B:=fun (s1:Int)=>
   if (decide (s1 < (len ks))) then
    (get? ks s1).bind fun x3=>
    (ZQ x3.W).bind fun x4=>
    if (!x4) then
     some (.inr (.inr v))
    else
     some (.inl ((w64 (s1 + 1))))
   else
    some (.inr (.inl ()))) (fun k _=>(k:Int)) (fun ys _=>wsB ys = wsB ks) (fun r=>r = if wsB ks = true then (.inl ():Unit ⊕ (Bool × D.termCheck)) else .inr v)
  (fun k x xs a hk' hx hlen hi => by
   have hd:decide ((k:Int) < len ks) = true:=by rw [Zg]; simp; omega
   simp only [hd,ZlL,get?_nat,hx,Zlx,ZgN]
   have e:wsB (x :: xs) = (decide (1 ≤ x.W ∧ x.W ≤ 16) && wsB xs):=rfl
   rw [e] at hi
   by_cases c:1 ≤ x.W ∧ x.W ≤ 16
   ·rw [decide_eq_true c, ZlV] at hi
    exact .inl ⟨(),by rw [decide_eq_true c,Zl7 (by decide),Zk (by omega) (by omega)]; rfl,hi⟩
   ·rw [decide_eq_false c, Zmt] at hi
    exact .inr ⟨_,by rw [decide_eq_false c,Zl6 (by decide)],by rw [← hi]; rfl⟩)
  (fun a hi => by
   have hd:decide ((ks.length:Int) < len ks) = false:=by rw [Zg]; simp
   simp only [hd,Zly,Zl4]
   exact ⟨_,rfl,by rw [← hi]; rfl⟩) (a:=()) rfl hn
 rw [show ((0:Nat):Int) = 0 from rfl] at g1
 rw [g1,g2]
theorem Zit:∀ (n:Nat) (t:D.Term) (c:D.termCheck),msz t ≤ 1048576 → 0 ≤ c.count → c.count ≤ 240 → (tab c.widths).length ≤ c.count → 1048580 + (241 - c.count) ≤ (n:Int) → ∃ b c',Z9 n c t = some (b,c') ∧
   (b = true → c.count + cnt t ≤ 240 ∧ nodeB t = true ∧ c'.count = c.count + cnt t ∧ runV (tab c.widths) (vrs t) = some (tab c'.widths)) ∧ (b = false → ¬ (c.count + cnt t ≤ 240 ∧ nodeB t = true ∧ (runV (tab c.widths) (vrs t)).isSome = true)):=by
 intro n
 induction n with
 | zero=>intro t c _ _ _ _ _; omega
 | succ n ih=>
  intro t c hs h0 h1 hg hn
  have hz:=XI t
  have hc:=XC t
  have hb:=Xi t
  have bad:nodeB t = false → ¬ (c.count + cnt t ≤ 240 ∧ nodeB t = true ∧ (runV (tab c.widths) (vrs t)).isSome = true):=fun h ⟨_,h2,_⟩=>by rw [h] at h2; cases h2
  unfold Z9
  rw [Zk (by omega) (by omega)]
  by_cases hC:c.count + 1 > 240
  ·simp only [hC, decide_true, ZlL, Zlx, Bool.true_or]
   exact ⟨false,_,rfl,fun h=>(by cases h),fun _ ⟨h,_,_⟩=>by omega⟩
  simp only [hC,decide_false,Zly,Zl4,ZgN t.W,Zlx,Zmm]
  by_cases hw:1 ≤ t.W ∧ t.W ≤ 16
  rotate_left
  ·simp only [hw, decide_false, ZmE, ZlL, Zlx, Bool.true_or]
   exact ⟨false,_,rfl,fun h=>(by cases h),fun _=>bad (by rw [hb]; unfold locB; rw [decide_eq_false hw]; simp)⟩
  simp only [hw,decide_true,ZlD,Zly,Zl4,Zlx,Zmm,and_self,Zlh]
  by_cases hl:(t.Kids.length:Int) = kc t.Op
  rotate_left
  ·have : (len t.Kids != kc t.Op) = true := by rw [Zg]; simpa using hl
   rw [Zl6 this]
   exact ⟨false,_,rfl,fun h=>(by cases h),fun _=>bad (by rw [hb]; unfold locB; rw [Zk2 hl]; simp)⟩
  have hl':¬ (len t.Kids != kc t.Op) = true:=by rw [Zg]; simpa using hl
  rw [Zl7 hl',Zhy (by omega) (by omega)]
  simp only [Zlx]
  by_cases hk:wsB t.Kids = true
  rotate_left
  ·rw [Zl7 hk]
   refine ⟨false,_,rfl,fun h=>(by cases h),fun _=>bad ?_⟩
   rw [hb]
   cases h:nodesB t.Kids
   ·simp
   ·exact absurd (Zlb h) hk
  rw [Zl6 hk]
  have hkw:∀ x ∈ t.Kids,1 ≤ x.W ∧ x.W ≤ 16:=fun x hx=>by
   unfold wsB at hk
   rw [Zl8] at hk
   exact of_decide_eq_true (hk x hx)
  obtain ⟨f,hf1,hf2⟩:=Zki hw hkw hl
  have hloc:locB t = ((Str.eqb t.Name ⟨[]⟩ || t.Op == 22) && (t.N == 0 || t.Op == 0 || t.Op == 19) && (f && (t.Op != 0 || wordB t.W t.N) && (t.Op != 22 || nameB t.Name))):=by
   unfold locB; rw [hf2,decide_eq_true hw,ZlV]
  simp only [hf1,Zlx]
  cases f with
  | false=>
   exact ⟨false,_,rfl,fun h=>(by cases h),fun _=>bad (by rw [hb,hloc]; simp)⟩
  | true=>
  simp only [ZlD,Zly,Zl4,Zau]
  have hx6:∃ x6,(if (t.Op == 0) = true then some (wordB t.W t.N) else some default) = some x6 ∧ (t.Op = 0 → x6 = wordB t.W t.N):=by
   by_cases o:t.Op = 0
   ·exact ⟨_,Zl6 (by simpa using o),fun _=>rfl⟩
   ·exact ⟨_,Zl7 (by simpa using o),fun h=>absurd h o⟩
  obtain ⟨x6,h6,h6'⟩:=hx6
  rw [h6]
  simp only [Zlx]
  by_cases c6:(t.Op == 0 && !x6) = true
  ·rw [Zl6 c6]
   simp only [Zl0,ZlW,Zmq] at c6
   refine ⟨false,_,rfl,fun h=>(by cases h),fun _=>bad ?_⟩
   rw [hb,hloc,← h6' c6.1,c6.2,c6.1]; simp
  rw [Zl7 c6]
  have d6:(t.Op != 0 || wordB t.W t.N) = true:=by
   by_cases o:t.Op = 0
   ·rw [← h6' o,o]; simp [o] at c6; simp [c6]
   ·simp [o]
  by_cases c7:(t.Op != 0 && t.Op != 19 && t.N != 0) = true
  ·rw [Zl6 c7]
   simp only [Zl0,bne_iff_ne,ne_eq] at c7
   refine ⟨false,_,rfl,fun h=>(by cases h),fun _=>bad ?_⟩
   rw [hb,hloc]
   have:(t.N == 0 || t.Op == 0 || t.Op == 19) = false:=by simp [c7]
   rw [this]; simp
  rw [Zl7 c7]
  have d7:(t.N == 0 || t.Op == 0 || t.Op == 19) = true:=by
   simp only [Zl0,bne_iff_ne,ne_eq] at c7
   by_cases a1:t.N = 0 <;> by_cases a2:t.Op = 0 <;> by_cases a3:t.Op = 19 <;> simp [a1,a2,a3] at c7 ⊢
  rw [d6,d7] at hloc
  simp only [ZlV,ZmJ] at hloc
  have ih':∀ x ∈ t.Kids,∀ c1:D.termCheck,c.count + 1 ≤ c1.count → c1.count ≤ 240 → (tab c1.widths).length ≤ c1.count → ∃ b c',Z9 n c1 x = some (b,c') ∧
   (b = true → c1.count + cnt x ≤ 240 ∧ nodeB x = true ∧ c'.count = c1.count + cnt x ∧ runV (tab c1.widths) (vrs x) = some (tab c'.widths)) ∧ (b = false → ¬ (c1.count + cnt x ≤ 240 ∧ nodeB x = true ∧ (runV (tab c1.widths) (vrs x)).isSome = true)):=fun x hx c1 k1 k2 k3=>by
   have:=Xo hx
   exact ih x c1 (by omega) (by omega) k2 k3 (by omega)
  by_cases ho:t.Op = 22
  ·rw [Zl7 (by simp [ho])]
   have hv:vrs t = [(t.Name,t.W)]:=by rw [ZeY,Zl6 ho]
   have hrun:runV (tab c.widths) (vrs t) = stp (tab c.widths) (t.Name,t.W):=by
    rw [hv]; simp only [runV]; cases stp (tab c.widths) (t.Name,t.W) <;> rfl
   have hks:t.Kids = []:=by
    rw [ho] at hl
    exact Zm0.1 (by have:kc 22 = 0:=rfl; omega)
   obtain ⟨b,m,e1,e2,e3⟩:=Zjy (n:=n) (c:=⟨c.count + 1,c.widths⟩) (t:=t) (by omega) (by omega) hw (by simp only; omega)
   rw [e1]
   simp only [Zlx]
   rw [ho] at hloc
   cases b with
   | false=>
    refine ⟨false,_,rfl,fun h=>(by cases h),fun _=>?_⟩
    rcases e3 rfl with e3 | e3
    ·exact bad (by rw [hb,hloc,e3]; simp)
    ·rw [hrun]
     simp only at e3
     rw [e3]
     exact fun ⟨_,_,h⟩=>by cases h
   | true=>
    obtain ⟨e4,e5⟩:=e2 rfl
    simp only at e5
    have hml:(tab m).length ≤ c.count + 1:=by have:=ZhO e5; omega
    obtain ⟨r,g1,g2⟩:=Zfw (n:=n) (ks:=t.Kids) (c0:=c.count + 1) (w0:=m) (by omega) (by omega) (by omega) (by omega) hml ih'
    rw [hks,Za1,Zdh] at g2
    have hcn:cnts t.Kids = 0:=by rw [hks,Za1]
    have hnb:nodesB t.Kids = true:=by rw [hks,ZL]; rfl
    simp only [ZlD,Zly,Zl4]
    rw [g1]
    rcases g2 with ⟨cc,ww,rfl,k1,k2,k3,k4⟩ | ⟨c',rfl,k1⟩
    ·refine ⟨true, ⟨cc, ww⟩, rfl, fun _ => ⟨by omega, ?_, by simp only; omega, ?_⟩, fun h => (by cases h)⟩
     ·rw [hb,hloc,e4,hnb]; simp
     ·rw [hrun, e5]
      simp only [runV,Option.some.injEq] at k4
      rw [k4]
    ·exfalso
     apply k1
     refine ⟨by omega,by rw [ZL]; rfl,rfl⟩
  ·rw [Zl6 (by simp [ho])]
   have hv:vrs t = vrss t.Kids:=by rw [ZeY,Zl7 ho]
   by_cases c8:Str.eqb t.Name ⟨[]⟩ = true
   rotate_left
   ·rw [Zl6 (by simpa using c8)]
    refine ⟨false,_,rfl,fun h=>(by cases h),fun _=>bad ?_⟩
    rw [hb,hloc]
    simp [c8,ho]
   rw [Zl7 (by simp [c8])]
   have hloc':locB t = true:=by rw [hloc,c8]; simp [ho]
   obtain ⟨r,g1,g2⟩:=Zfw (n:=n) (ks:=t.Kids) (c0:=c.count + 1) (w0:=c.widths) (by omega) (by omega) (by omega) (by omega) (by omega) ih'
   rw [g1,hv,hb,hloc']
   simp only [ZlV]
   rcases g2 with ⟨cc,ww,rfl,k1,k2,k3,k4⟩ | ⟨c',rfl,k1⟩
   ·exact ⟨true,⟨cc,ww⟩,rfl,fun _=>⟨by omega,k3,by simp only; omega,k4⟩,fun h=>(by cases h)⟩
   ·exact ⟨false,c',rfl,fun h=>(by cases h),fun _ ⟨h1,h2,h3⟩=>k1 ⟨by omega,h2,h3⟩⟩
theorem Zf9 {t:D.Term} (h:msz t ≤ 1048576):XA fuel t = some (termB t):=by
 unfold XA
 obtain ⟨b,c',e1,e2,e3⟩:=Zit fuel t ⟨0,none⟩ h (by simp) (by simp) (by simp [tab]) (by unfold fuel; simp)
 rw [e1]
 simp only [Zlx,Option.some.injEq]
 unfold termB
 simp only [tab,Option.getD_none] at e2 e3
 cases b with
 | true=>
  obtain ⟨h1,h2,-,h3⟩:=e2 rfl
  rw [h2,h3,decide_eq_true (by omega)]; rfl
 | false=>
  have:=e3 rfl
  cases hb:nodeB t
  ·simp
  ·cases hr : (runV [] (vrs t)).isSome
   ·simp
   ·have : ¬ cnt t ≤ 240 := fun hc => this ⟨by omega, hb, hr⟩
    simp [this]
theorem ZfV {α:Type} {l:List α} {b:α → Bool} (G:α → Int → Option (Int ⊕ (Unit ⊕ Bool))) (hG:∀ (k:Nat) (x:α),l[k]? = some x → G x k = if b x = true then some (.inl (w64 ((k:Int) + 1))) else some (.inr (.inr false))) (hb:l.length ≤ 1048576) {n:Nat} (hn:l.length < n) :
  iterN (fun (s1:Int)=>if (decide (s1 < (len l))) then (get? l s1).bind fun x1=>G x1 s1 else some (.inr (.inl ()))) n 0 = some (if l.all b = true then (.inl ():Unit ⊕ Bool) else .inr false):=by
 obtain ⟨r,g1,g2⟩:=ZN (l:=l) (n:=n) (σ:=Unit) (ρ:=Unit ⊕ Bool) (B:=fun (s1:Int)=>if (decide (s1 < (len l))) then (get? l s1).bind fun x1=>G x1 s1 else some (.inr (.inl ())))
  (fun k _=>(k:Int)) (fun ys _=>ys.all b = l.all b) (fun r=>r = if l.all b = true then (.inl ():Unit ⊕ Bool) else .inr false)
  (fun k x xs a hk' hx hlen hi => by
   have hd:decide ((k:Int) < len l) = true:=by rw [Zg]; simp; omega
   simp only [hd,ZlL,get?_nat,hx,Zlx]
   rw [hG k x hx]
   rw [Znc] at hi
   cases c:b x
   ·rw [c, Zmt] at hi
    exact .inr ⟨_,rfl,by rw [← hi]; rfl⟩
   ·rw [c, ZlV] at hi
    exact .inl ⟨(),by rw [Zk (by omega) (by omega)]; rfl,hi⟩)
  (fun a hi => by
   have hd:decide ((l.length:Int) < len l) = false:=by rw [Zg]; simp
   simp only [hd,Zly,Zl4]
   exact ⟨_,rfl,by rw [← hi]; rfl⟩) (a:=()) rfl hn
 rw [show ((0:Nat):Int) = 0 from rfl] at g1
 rw [g1,g2]
def tsB (l:List D.Term) (w:Int):Bool:=l.all fun t=>termB t && t.W == w
theorem Zh2 {l:List D.Term} (h:sml l) {x:D.Term} (hx:x ∈ l):msz x ≤ 1048576:=by
 have:=Xo hx
 unfold sml at h; omega
theorem Zev {l:List D.Term} (h:sml l):l.length ≤ 1048576:=by unfold sml at h; omega
theorem Zcf {l:List D.Term} {w:Int} (h:sml l):YY fuel l w = some (tsB l w):=by
 unfold YY
 have hl:=ZfV (l:=l) (b:=fun t=>termB t && t.W == w) (fun x1 s1=>(Xl fuel x1).bind fun x2=>
   if ((!x2) || (x1.W != w)) then
    some (.inr (.inr false))
   else
    some (.inl ((w64 (s1 + 1))))) (fun k x hx=>by
  simp only [ZdQ (Zh2 h (ZlC hx)),Zlx]
  cases termB x <;> by_cases c:x.W = w <;> simp [c]) (Zev h) (Yy (Zev h))
 rw [hl]
 unfold tsB
 cases l.all (fun t=>termB t && t.W == w) <;> rfl
theorem Zcn {l:List D.Term} {w:Int} (h:sml l):Xj fuel w l = some (tsB l w):=by
 unfold Xj
 have hl:=ZfV (l:=l) (b:=fun t=>termB t && t.W == w) (fun x1 s1=>
   (if (x1.W != w) then some default else (get? l s1)).bind fun x2=>
   (if (x1.W != w) then some default else (XA fuel x2)).bind fun x3=>
   if ((x1.W != w) || (!x3)) then
    some (.inr (.inr false))
   else
    some (.inl ((w64 (s1 + 1))))) (fun k x hx=>by
  have ht:=Zf9 (Zh2 h (ZlC hx))
  by_cases c:x.W = w
  ·simp only [c, bne_self_eq_false, Zly, Zl4, get?_nat, hx, Zlx, ht, Zmm]
   cases termB x <;> simp
  ·have c' : (x.W != w) = true := by simpa using c
   have c2:(x.W == w) = false:=by simpa using c
   simp [c',c2]) (Zev h) (Yy (Zev h))
 rw [hl]
 unfold tsB
 cases l.all (fun t=>termB t && t.W == w) <;> rfl
theorem Zhi {l:List Int} (h:l.length ≤ 1048576):ZaM fuel l = some (l.all fun x=>decide (0 ≤ x ∧ x ≤ 1)):=by
 unfold ZaM
 have hl:=ZfV (l:=l) (b:=fun x=>decide (0 ≤ x ∧ x ≤ 1)) (fun x1 s1=>
   if ((x1 != 0) && (x1 != 1)) then
    some (.inr (.inr false))
   else
    some (.inl ((w64 (s1 + 1))))) (fun k x hx=>by
  by_cases c:0 ≤ x ∧ x ≤ 1
  ·have : x = 0 ∨ x = 1 := by omega
   rcases this with rfl | rfl <;> simp
  ·have h1 : (x != 0) = true := by simp; omega
   have h2:(x != 1) = true:=by simp; omega
   rw [h1,h2,decide_eq_false c]; rfl) h (Yy h)
 rw [hl]
 cases l.all (fun x=>decide (0 ≤ x ∧ x ≤ 1)) <;> rfl
def pathB (p:D.Program) (s:D.Path):Bool:=
 progB p && decide (0 ≤ s.Pc ∧ s.Pc ≤ len p.Code) && (len s.Regs == 4) && (len s.Mem == p.Mem) && decide (len s.Stack ≤ 3) && decide (0 ≤ s.In ∧ s.In ≤ p.In) && decide (len s.Out ≤ 6) && decide (0 ≤ s.Code ∧ s.Code ≤ 9) && decide (0 ≤ s.Steps ∧ s.Steps ≤ 400) && decide (len s.Cond ≤ 60) && decide (len s.Turns ≤ 60) &&
 (s.Stack.all fun x=>decide (0 ≤ x ∧ x ≤ len p.Code)) && (s.Turns.all fun x=>decide (0 ≤ x ∧ x ≤ 1)) && tsB s.Regs p.W && tsB s.Mem p.W && tsB s.Out p.W && tsB s.Cond 1
theorem ZcH {p:D.Program} {s:D.Path} (hp:p.Code.length ≤ 1048576) (hs:smallP s):Xn fuel p s = some (pathB p s):=by
 obtain ⟨s1,s2,s3,s4,s5,s6⟩:=hs
 unfold Xn
 have l1:=Zb4 (l:=s.Stack) (f:=fun x=>Zm x 0 (len p.Code)) (b:=fun x=>decide (0 ≤ x ∧ x ≤ len p.Code)) (fun x _=>Zj _ _ _) (by omega) s.Stack.length 0 (by omega) fuel (Yy s3)
 have l2:=Zb4 (l:=s.Turns) (f:=fun x=>Zm x 0 1) (b:=fun x=>decide (0 ≤ x ∧ x ≤ 1)) (fun x _=>Zj _ _ _) (by omega) s.Turns.length 0 (by omega) fuel (Yy s6)
 rw [show ((0:Nat):Int) = 0 from rfl,ZmH] at l1 l2
 rw [l1,l2]
 simp only [Ziv hp,Zj,Zlx,Zd6,ZbN,Zcf s1,Zcf s2,Zcf s4,Zcf s5]
 unfold pathB
 cases progB p
 ·simp
 by_cases a2:0 ≤ s.Pc ∧ s.Pc ≤ len p.Code
 rotate_left
 ·simp [a2]
 by_cases a3:len s.Regs = 4
 rotate_left
 ·simp [a2,a3]
 by_cases a4:len s.Mem = p.Mem
 rotate_left
 ·simp [a2,a3,a4]
 by_cases a5:len s.Stack ≤ 3
 rotate_left
 ·have : len s.Stack > 3 := by omega
  simp [a2,a3,a4,a5,this]
 by_cases a6:0 ≤ s.In ∧ s.In ≤ p.In
 rotate_left
 ·simp [a2,a3,a4,a5,a6,Zml.2 a5]
 by_cases a7:len s.Out ≤ 6
 rotate_left
 ·have : len s.Out > 6 := by omega
  simp [a2,a3,a4,a5,a6,a7,Zml.2 a5,this]
 by_cases a8:0 ≤ s.Code ∧ s.Code ≤ 9
 rotate_left
 ·simp [a2,a3,a4,a5,a6,a7,a8,Zml.2 a5,Zml.2 a7]
 by_cases a9:0 ≤ s.Steps ∧ s.Steps ≤ 400
 rotate_left
 ·simp [a2,a3,a4,a5,a6,a7,a8,a9,Zml.2 a5,Zml.2 a7]
 by_cases b1:len s.Cond ≤ 60
 rotate_left
 ·have : len s.Cond > 60 := by omega
  simp [a2,a3,a4,a5,a6,a7,a8,a9,b1,Zml.2 a5,Zml.2 a7,this]
 by_cases b2:len s.Turns ≤ 60
 rotate_left
 ·have : len s.Turns > 60 := by omega
  simp [a2,a3,a4,a5,a6,a7,a8,a9,b1,b2,Zml.2 a5,Zml.2 a7,Zml.2 b1,this]
 simp only [a2,a3,a4,a5,a6,a7,a8,a9,b1,b2,gt_iff_lt,Zml.2 a5,Zml.2 a7,Zml.2 b1,Zml.2 b2,decide_true,decide_false,ZlD,ZnK,Znj,Zly,Zl4,bne_self_eq_false,Zme,ZlV,ZmJ,ZmR,and_self]
 cases s.Stack.all (fun x=>decide (0 ≤ x ∧ x ≤ len p.Code))
 ·simp
 cases s.Turns.all (fun x=>decide (0 ≤ x ∧ x ≤ 1))
 ·simp
 cases tsB s.Regs p.W <;> cases tsB s.Mem p.W <;> cases tsB s.Out p.W <;> cases tsB s.Cond 1 <;> rfl
theorem ZdZ {p:D.Program} {s:D.Path} (hp:p.Code.length ≤ 1048576) (hs:smallP s):Xp fuel p s = some (pathB p s):=by
 obtain ⟨s1,s2,s3,s4,s5,s6⟩:=hs
 have hpl:∀ x,XG p x = some (decide (0 ≤ x ∧ x ≤ len p.Code)):=fun x=>by simp [XG]
 have hfu:∀ x,Zbe x = some (decide (0 ≤ x ∧ x ≤ 400)):=fun x=>by simp [Zbe]
 unfold Xp
 have l1:=Zb4 (l:=s.Stack) (f:=fun x=>XG p x) (b:=fun x=>decide (0 ≤ x ∧ x ≤ len p.Code)) (fun x _=>hpl _) (by omega) s.Stack.length 0 (by omega) fuel (Yy s3)
 rw [show ((0:Nat):Int) = 0 from rfl,ZmH] at l1
 rw [l1]
 simp only [ZhY hp,hpl,hfu,Zhi s6,Zlx,Zd6,ZbN,Zcn s1,Zcn s2,Zcn s4,Zcn s5]
 unfold pathB
 cases progB p
 ·simp
 by_cases a2:0 ≤ s.Pc ∧ s.Pc ≤ len p.Code
 rotate_left
 ·simp [a2]
 by_cases a3:len s.Regs = 4
 rotate_left
 ·simp [a2,a3]
 by_cases a4:len s.Mem = p.Mem
 rotate_left
 ·simp [a2,a3,a4]
 by_cases a5:len s.Stack ≤ 3
 rotate_left
 ·have : len s.Stack > 3 := by omega
  simp [a2,a3,a4,a5,this]
 by_cases a6:0 ≤ s.In ∧ s.In ≤ p.In
 rotate_left
 ·have : s.In < 0 ∨ s.In > p.In := by omega
  rcases this with h | h <;> simp [a2,a3,a4,a5,a6,Zml.2 a5,h]
 by_cases a7:len s.Out ≤ 6
 rotate_left
 ·have : len s.Out > 6 := by omega
  simp [a2,a3,a4,a5,a6,a7,Zml.2 a5,this]
 have c6:¬ s.In < 0:=by omega
 have c6':¬ s.In > p.In:=by omega
 simp only [a2,a3,a4,a5,a6,a7,c6,c6',gt_iff_lt,Zml.2 a5,Zml.2 a7,Zml.2 a6.2,decide_true,decide_false,ZlD,ZnK,Znj,Zly,Zl4,bne_self_eq_false,Zme,ZlV,ZmJ,ZmR,and_self]
 cases hst:s.Stack.all (fun x=>decide (0 ≤ x ∧ x ≤ len p.Code))
 ·simp
 simp only [ZlL]
 by_cases a8:0 ≤ s.Code ∧ s.Code ≤ 9
 rotate_left
 ·have : s.Code < 0 ∨ 9 < s.Code := by omega
  rcases this with h | h <;> simp [a8,h]
 have c8:¬ s.Code < 0:=by omega
 have c8':¬ 9 < s.Code:=by omega
 by_cases a9:0 ≤ s.Steps ∧ s.Steps ≤ 400
 rotate_left
 ·simp [a8,a9,c8,c8']
 by_cases b1:len s.Cond ≤ 60
 rotate_left
 ·have : 60 < len s.Cond := by omega
  simp [a8,a9,b1,c8,c8',this]
 by_cases b2:len s.Turns ≤ 60
 rotate_left
 ·have : 60 < len s.Turns := by omega
  simp [a8,a9,b1,b2,c8,c8',this]
 simp only [a8,a9,b1,b2,c8,c8',Zml.2 b1,Zml.2 b2,decide_true,decide_false,ZlD,ZnK,Zmm,Znj,Zly,Zl4,ZlV,ZmJ,ZmR,and_self]
 cases s.Turns.all (fun x=>decide (0 ≤ x ∧ x ≤ 1))
 ·simp
 cases tsB s.Regs p.W <;> cases tsB s.Mem p.W <;> cases tsB s.Out p.W <;> cases tsB s.Cond 1 <;> rfl
theorem Zf5 (w v:Int):∃ b,ZY w v = some b ∧ Y9 w v = some b:=by
 unfold ZY Y9 Zm ZQ
 by_cases h:1 ≤ w ∧ w ≤ 16
 ·obtain ⟨m, h1, h2, h3⟩ := ZhC h.1 h.2
  exact ⟨band v (w64 (m - 1)),by simp [h.1,h.2,h1],by simp [h.1,h.2,h2]⟩
 ·refine ⟨-1, ?_, ?_⟩
  ·by_cases a : 1 ≤ w
   ·have b : ¬ w ≤ 16 := fun b => h ⟨a, b⟩
    simp [a,b]
   ·simp [a]
  ·by_cases a : 1 ≤ w
   ·have b : ¬ w ≤ 16 := fun b => h ⟨a, b⟩
    simp [a,b]
   ·simp [a]
def wordOf (w v:Int):Int:=(ZY w v).getD 0
theorem Ye (w v:Int):ZY w v = some (wordOf w v):=by
 obtain ⟨b,h,-⟩:=Zf5 w v
 simp [wordOf,h]
theorem XB (w v:Int):Y9 w v = some (wordOf w v):=by
 obtain ⟨b,h,h'⟩:=Zf5 w v
 simp [wordOf,h,h']
theorem Zeh {w:Int} (h1:1 ≤ w) (h2:w ≤ 16):w = 1 ∨ w = 2 ∨ w = 3 ∨ w = 4 ∨ w = 5 ∨ w = 6 ∨ w = 7 ∨ w = 8 ∨ w = 9 ∨ w = 10 ∨ w = 11 ∨ w = 12 ∨ w = 13 ∨ w = 14 ∨ w = 15 ∨ w = 16:=by omega
theorem Zba {w:Int} (h1:1 ≤ w) (h2:w ≤ 16):shl? 1 w = some (2 ^ w.toNat) ∧ shl? 1 (IntKind.u64.wrap w) = some (2 ^ w.toNat) ∧ w64 ((2:Int) ^ w.toNat - 1) = 2 ^ w.toNat - 1 ∧ (2:Int) ≤ 2 ^ w.toNat ∧ (2:Int) ^ w.toNat ≤ 65536:=by
 rcases Zeh h1 h2 with rfl | rfl | rfl | rfl | rfl | rfl | rfl | rfl | rfl | rfl | rfl | rfl | rfl | rfl | rfl | rfl <;> exact ⟨rfl,rfl,by decide,by decide,by decide⟩
theorem ZZ {w:Int} (h1:1 ≤ w) (h2:w ≤ 16) (v:Int):wordB w v = true ↔ 0 ≤ v ∧ v < 2 ^ w.toNat:=by
 obtain ⟨a1,a2,a3,a4,a5⟩:=Zba h1 h2
 have hs:=X0 w v
 unfold ZF Zm at hs
 have e:(decide (w ≥ 1) && decide (w ≤ 16)) = true:=by simp; omega
 simp only [e,Zlx] at hs
 by_cases hv:0 ≤ v
 ·simp only [hv, decide_true, ZlL, a1, Zlx] at hs
  rw [a3] at hs
  simp at hs
  rw [← hs]; simp [hv]; omega
 ·simp [hv, a1] at hs
  rw [hs]; simp; omega
theorem Yg {w v:Int} (h:wordB w v = true):1 ≤ w ∧ w ≤ 16:=by
 have hs:=X0 w v
 rw [h] at hs
 unfold ZF Zm at hs
 by_cases a:1 ≤ w
 ·by_cases b : w ≤ 16
  ·exact ⟨a,b⟩
  ·have e : (decide (w ≥ 1) && decide (w ≤ 16)) = false := by simp [b]
   simp only [e,Zlx] at hs
   simp at hs
 ·have e : (decide (w ≥ 1) && decide (w ≤ 16)) = false := by simp [a]
  simp only [e,Zlx] at hs
  simp at hs
theorem Zgy {w v:Int} (h:wordB w v = true):0 ≤ v ∧ v < 65536:=by
 obtain ⟨a,b⟩:=Yg h
 obtain ⟨_,_,_,_,h5⟩:=Zba a b
 have:=(ZZ a b v).1 h
 omega
theorem ZdX {x:Int} (h1:0 ≤ x) (h2:x ≤ 100000):IntKind.u64.wrap x = x:=by
 have:IntKind.u64.wrap x = x % 18446744073709551616:=by simp [IntKind.wrap,IntKind.bits,IntKind.signed]
 rw [this]; omega
theorem Zdd (x:Int) {y:Int} (h:0 ≤ y):shr? x y = some (x.fdiv (2 ^ min y.toNat 64)):=by unfold shr?; rw [Zl7 (by omega)]
theorem ZfY (x:Int) {y:Int} (h:0 ≤ y):shl? x y = some (w64 (x * 2 ^ min y.toNat 64)):=by unfold shl?; rw [Zl7 (by omega)]
theorem Zeb (w v:Int):∃ r,Y0 w v = some r ∧ YF w v = some r:=by
 unfold Y0 YF
 rw [X0,Zau]
 simp only [Zlx]
 cases hb:wordB w v with
 | false=>exact ⟨0,rfl,rfl⟩
 | true=>
  obtain ⟨h1,h2⟩:=Yg hb
  obtain ⟨a1,a2,a3,a4,a5⟩:=Zba h1 h2
  obtain ⟨c1,c2⟩:=(ZZ h1 h2 v).1 hb
  have e1:w64 (w - 1) = w - 1:=Zk (by omega) (by omega)
  have hsh:v.fdiv (2 ^ min (w - 1).toNat 64) = 0 ∨ v.fdiv (2 ^ min (w - 1).toNat 64) = 1:=by
   have e2:min (w - 1).toNat 64 = (w - 1).toNat:=by omega
   rw [e2,Zno _ (Int.pow_nonneg (by decide))]
   have e3:(2:Int) ^ w.toNat = 2 * 2 ^ (w - 1).toNat:=by
    have:w.toNat = (w - 1).toNat + 1:=by omega
    rw [this,Int.pow_succ]; omega
   have hp:(0:Int) < 2 ^ (w - 1).toNat:=ZnE (by decide)
   rw [e3] at c2
   by_cases hlt:v < 2 ^ (w - 1).toNat
   ·left; exact Int.ediv_eq_zero_of_lt c1 hlt
   ·right
    have g1:1 ≤ v / 2 ^ (w - 1).toNat:=Int.le_ediv_of_mul_le hp (by omega)
    have g2:v / 2 ^ (w - 1).toNat < 2:=Int.ediv_lt_of_lt_mul hp (by omega)
    omega
  simp only [ZlD,Zly,Zl4,e1,ZdX (show 0 ≤ w - 1 by omega) (show w - 1 ≤ 100000 by omega),Zdd v (show 0 ≤ w - 1 by omega),Zlx,a1,a2]
  rcases hsh with e | e
  ·rw [e]; exact ⟨v,by simp,by simp⟩
  ·rw [e]; exact ⟨w64 (v - 2 ^ w.toNat),by simp,by simp⟩
def signedOf (w v:Int):Int:=(Y0 w v).getD 0
theorem Zbl (w v:Int):Y0 w v = some (signedOf w v):=by
 obtain ⟨b,h,-⟩:=Zeb w v
 simp [signedOf,h]
theorem Zed (w v:Int):YF w v = some (signedOf w v):=by
 obtain ⟨b,h,h'⟩:=Zeb w v
 simp [signedOf,h,h']
theorem ZeN (b:Bool):XR b = some (if b then 1 else 0) ∧ XT b = some (if b then 1 else 0):=by
 cases b <;> exact ⟨rfl,rfl⟩
theorem ZcA (op w a b:Int):∃ r,Yv op w a b = some r ∧ Xb op w a b = some r:=by
 unfold Yv Xb
 simp only [X0,Zau,Ye,XB,Zlx]
 cases ha:wordB w a with
 | false=>exact ⟨-1,rfl,rfl⟩
 | true=>
  simp only [ZlD,Zly,Zl4,Zlx,Zmm]
  cases hb:wordB w b with
  | false=>exact ⟨-1,rfl,rfl⟩
  | true=>
   obtain ⟨h1,h2⟩:=Yg ha
   obtain ⟨a1,a2,a3,a4,a5⟩:=Zba h1 h2
   obtain ⟨c1,c2⟩:=Zgy ha
   obtain ⟨d1,d2⟩:=Zgy hb
   have hquo:b ≠ 0 → quo? a b = some (w64 (a.tdiv b)):=fun h=>by unfold quo?; rw [Zl7 h]
   have hrem:b ≠ 0 → rem? a b = some (a.tmod b):=fun h=>by unfold rem?; rw [Zl7 h]
   have hw1:w64 (w - 1) = w - 1:=Zk (by omega) (by omega)
   simp only [ZlD,Zly,Zl4,ZaJ,Ye,XB,Zbl,Zed,(ZeN _).1,(ZeN _).2,Zlx,a1,a2,hw1]
   by_cases e3:op = 3
   ·subst e3; exact ⟨_,rfl,rfl⟩
   by_cases e4:op = 4
   ·subst e4; exact ⟨_,rfl,rfl⟩
   by_cases e5:op = 5
   ·subst e5; exact ⟨_,rfl,rfl⟩
   by_cases e6:op = 6
   ·subst e6
    by_cases z:b = 0
    ·subst z; exact ⟨_,rfl,rfl⟩
    ·refine ⟨w64 (a.tdiv b),?_,?_⟩ <;> simp [z,hquo z]
   by_cases e7:op = 7
   ·subst e7
    by_cases z:b = 0
    ·subst z; exact ⟨_,rfl,rfl⟩
    ·refine ⟨a.tmod b,?_,?_⟩ <;> simp [z,hrem z]
   by_cases e8:op = 8
   ·subst e8; exact ⟨_,rfl,rfl⟩
   by_cases e9:op = 9
   ·subst e9; exact ⟨_,rfl,rfl⟩
   by_cases e10:op = 10
   ·subst e10; exact ⟨_,rfl,rfl⟩
   by_cases e11:op = 11
   ·subst e11
    by_cases z:b ≥ w
    ·refine ⟨0,?_,?_⟩ <;> simp [z]
    ·have hb' := ZdX d1 (by omega)
     refine ⟨wordOf w (w64 (a * 2 ^ min b.toNat 64)),?_,?_⟩ <;> simp [z,hb',ZfY a d1,Ye,XB]
   by_cases e12:op = 12
   ·subst e12
    by_cases z:b ≥ w
    ·refine ⟨0,?_,?_⟩ <;> simp [z]
    ·have hb' := ZdX d1 (by omega)
     refine ⟨a.fdiv (2 ^ min b.toNat 64),?_,?_⟩ <;> simp [z,hb',Zdd a d1]
   by_cases e13:op = 13
   ·subst e13
    have hmin:imin b (w - 1) = (bif decide (b ≥ w) then w - 1 else b):=by
     unfold imin
     by_cases z:b ≥ w
     ·rw [Zl6 (by omega)]; simp [z]
     ·rw [Zl7 (by omega)]; simp [z]
    rw [hmin]
    have hq:0 ≤ (bif decide (b ≥ w) then w - 1 else b) ∧ (bif decide (b ≥ w) then w - 1 else b) ≤ 1000:=by
     by_cases z:b ≥ w
     ·simp [z]; omega
     ·simp [z]; omega
    generalize (bif decide (b ≥ w) then w - 1 else b) = y at hq ⊢
    rw [ZdX hq.1 (by omega),Zdd _ hq.1]
    refine ⟨wordOf w ((signedOf w a).fdiv (2 ^ min y.toNat 64)),?_,?_⟩ <;> simp [Ye,XB]
   by_cases e14:op = 14
   ·subst e14; exact ⟨_,rfl,rfl⟩
   by_cases e15:op = 15
   ·subst e15; exact ⟨_,rfl,rfl⟩
   by_cases e16:op = 16
   ·subst e16; exact ⟨_,rfl,rfl⟩
   refine ⟨-1,?_,?_⟩ <;> simp [e3,e4,e5,e6,e7,e8,e9,e10,e11,e12,e13,e14,e15,e16]
theorem Zfg (op w a:Int):∃ r,YR op w a = some r ∧ XL op w a = some r:=by
 unfold YR XL
 simp only [X0,Zau,Ye,XB,Zlx]
 cases ha:wordB w a with
 | false=>exact ⟨-1,rfl,rfl⟩
 | true=>
  obtain ⟨h1,h2⟩:=Yg ha
  obtain ⟨a1,a2,a3,a4,a5⟩:=Zba h1 h2
  simp only [a1,a2,Zlx]
  by_cases e1:op = 1
  ·subst e1; exact ⟨_,rfl,rfl⟩
  by_cases e2:op = 2
  ·subst e2; exact ⟨_,rfl,rfl⟩
  exact ⟨-1,by simp [e1,e2],by simp [e1,e2]⟩
theorem ZfT (w a v b:Int):∃ r,Xe w a v b = some r ∧ Zaa w a v b = some r:=by
 unfold Xe Zaa
 simp only [X0,Zau,Zlx]
 cases ha:wordB w a with
 | false=>exact ⟨-1,rfl,rfl⟩
 | true=>
  simp only [ZlD,Zly,Zl4,Zlx,Zmm]
  cases hb:wordB v b with
  | false=>exact ⟨-1,rfl,rfl⟩
  | true=>
   obtain ⟨h1,h2⟩:=Yg hb
   rw [ZdX (show 0 ≤ v by omega) (by omega)]
   simp only [ZfY a (show 0 ≤ v by omega),Zlx]
   by_cases c:w64 (w + v) > 16
   ·exact ⟨-1,by simp [c],by simp [c]⟩
   ·exact ⟨w64 (w64 (a * 2 ^ min v.toNat 64) + b),by simp [c],by simp [c]⟩
theorem ZfR (w a n:Int) (s:Bool):∃ r,Xc w a n s = some r ∧ Zan w a n s = some r:=by
 unfold Xc Zan
 simp only [X0,Zau,Ye,XB,Zbl,Zed,Zlx]
 cases ha:wordB w a with
 | false=>exact ⟨-1,rfl,rfl⟩
 | true=>
  obtain ⟨h1,h2⟩:=Yg ha
  have hi:ZQ n = some (decide (1 ≤ n ∧ n ≤ 16)):=by simp [ZQ]
  simp only [ZlD,Zly,Zl4,Zlx,Zmm,hi]
  by_cases c1:n < w
  ·exact ⟨-1,by simp [c1],by simp [c1]⟩
  ·by_cases c2 : n ≤ 16
   ·have c3 : 1 ≤ n ∧ n ≤ 16 := by omega
    have c4:¬ n > 16:=by omega
    cases s
    ·exact ⟨a,by simp [c1,c4],by simp [c1,c3]⟩
    ·exact ⟨wordOf n (signedOf w a),by simp [c1,c4,Ye],by simp [c1,c3,XB]⟩
   ·have c3 : ¬ (1 ≤ n ∧ n ≤ 16) := by omega
    have c4:n > 16:=by omega
    exact ⟨-1,by simp [c4],by simp [c3]⟩
theorem Zhf {w a l n:Int} (hl:0 ≤ l ∧ l ≤ 100) (hn : -100 ≤ n ∧ n ≤ 100):∃ r,XH w a l n = some r ∧ ZaL w a l n = some r:=by
 unfold XH ZaL
 simp only [X0,Zau,Ye,XB,Zlx]
 cases ha:wordB w a with
 | false=>exact ⟨-1,rfl,rfl⟩
 | true=>
  obtain ⟨h1,h2⟩:=Yg ha
  have e1:w64 (w - n) = w - n:=Zk (by omega) (by omega)
  have e2:w64 (w - l) = w - l:=Zk (by omega) (by omega)
  simp only [ZlD,Zmm,e1,e2]
  have hl0:¬ l < 0:=by omega
  by_cases c1:n < 1
  ·exact ⟨-1,by simp [c1],by simp [c1]⟩
  ·by_cases c2 : n > w - l
   ·have : n > w ∨ l > w - n := by omega
    refine ⟨-1,?_,by simp [c2]⟩
    rcases this with h | h <;> simp [h]
   ·have c3 : ¬ n > w := by omega
    have c4:¬ l > w - n:=by omega
    obtain ⟨a1,a2,a3,_⟩:=Zba (w:=n) (by omega) (by omega)
    have hw:∀ x,wordOf n x = band x (w64 (2 ^ n.toNat - 1)):=fun x=>by
     have hs:=Ye n x
     unfold ZY Zm at hs
     have e:(decide (n ≥ 1) && decide (n ≤ 16)) = true:=by simp; omega
     simp only [e,Zlx,ZlD,Zly,Zl4,a1,Option.some.injEq] at hs
     exact hs.symm
    refine ⟨wordOf n (a.fdiv (2 ^ min l.toNat 64)),?_,?_⟩
    ·simp [hl0,c1,c3,c4,Zdd a hl.1,Ye]
    ·simp only [hl0,c1,c2,decide_false,Znj,Zly,Zl4,ZdX hl.1 (by omega),Zdd a hl.1,a2,Zlx,hw]
theorem YS {α:Type} {l m:List α} (h:l.length + m.length ≤ 1048576):app? l m = some (l ++ m):=by
 unfold app?; rw [Zl6 (by unfold room; omega)]
theorem get0 (x:D.Term) (l:List D.Term):get? (x :: l) 0 = some x:=rfl
theorem get1 (x y:D.Term) (l:List D.Term):get? (x :: y :: l) 1 = some y:=rfl
theorem get2' (x y z:D.Term) (l:List D.Term):get? (x :: y :: z :: l) 2 = some z:=rfl
theorem geti0 (x:Int) (l:List Int):get? (x :: l) 0 = some x:=rfl
theorem geti1 (x y:Int) (l:List Int):get? (x :: y :: l) 1 = some y:=rfl
theorem geti2 (x y z:Int) (l:List Int):get? (x :: y :: z :: l) 2 = some z:=rfl
theorem Zic {t:D.Term} (h:locB t = true):(t.Op = 0 ∧ t.Kids = []) ∨ (t.Op = 22 ∧ t.Kids = []) ∨ ((t.Op = 1 ∨ t.Op = 2) ∧ ∃ a,t.Kids = [a] ∧ a.W = t.W) ∨ (3 ≤ t.Op ∧ t.Op ≤ 16 ∧ ∃ a b,t.Kids = [a,b] ∧ a.W = b.W) ∨ (t.Op = 17 ∧ ∃ a b c,t.Kids = [a,b,c]) ∨ (t.Op = 18 ∧ ∃ a b,t.Kids = [a,b]) ∨ (t.Op = 19 ∧ 0 ≤ t.N ∧ t.N ≤ 16 ∧ ∃ a,t.Kids = [a]) ∨ ((t.Op = 20 ∨ t.Op = 21) ∧ ∃ a,t.Kids = [a]):=by
 unfold locB at h
 simp only [Zl0] at h
 have h:=h.2
 unfold shB at h
 by_cases o0:t.Op = 0
 ·rw [Zl6 o0] at h
  simp only [Zl0,Znk,ZmW] at h
  exact .inl ⟨o0,h.1⟩
 rw [Zl7 o0] at h
 by_cases o1:t.Op = 22
 ·rw [Zl6 o1] at h
  simp only [Zl0,Znk,ZmW] at h
  exact .inr (.inl ⟨o1,h.1⟩)
 rw [Zl7 o1] at h
 have k1:∀ f:Int → Bool,(match t.Kids.map (·.W) with | [a]=>f a | _=>false) = true → ∃ a,t.Kids = [a] ∧ f a.W = true:=fun f h=>by
  rcases hk:t.Kids with _ | ⟨a,_ | ⟨b,l⟩⟩ <;> rw [hk] at h <;> simp at h
  exact ⟨a,rfl,h⟩
 have k2:∀ f:Int → Int → Bool,(match t.Kids.map (·.W) with | [a,b]=>f a b | _=>false) = true → ∃ a b,t.Kids = [a,b] ∧ f a.W b.W = true:=fun f h=>by
  rcases hk:t.Kids with _ | ⟨a,_ | ⟨b,_ | ⟨c,l⟩⟩⟩ <;> rw [hk] at h <;> simp at h
  exact ⟨a,b,rfl,h⟩
 have k3:∀ f:Int → Int → Int → Bool,(match t.Kids.map (·.W) with | [a,b,c]=>f a b c | _=>false) = true → ∃ a b c,t.Kids = [a,b,c] ∧ f a.W b.W c.W = true:=fun f h=>by
  rcases hk:t.Kids with _ | ⟨a,_ | ⟨b,_ | ⟨c,_ | ⟨d,l⟩⟩⟩⟩ <;> rw [hk] at h <;> simp at h
  exact ⟨a,b,c,rfl,h⟩
 by_cases o2:1 ≤ t.Op ∧ t.Op ≤ 2
 ·rw [Zl6 o2] at h
  obtain ⟨a,ha,hf⟩:=k1 (fun a=>a == t.W) h
  exact .inr (.inr (.inl ⟨by omega,a,ha,by simpa using hf⟩))
 rw [Zl7 o2] at h
 by_cases o3:3 ≤ t.Op ∧ t.Op ≤ 13
 ·rw [Zl6 o3] at h
  obtain ⟨a,b,ha,hf⟩:=k2 (fun a b=>a == t.W && b == t.W) h
  simp only [Zl0,ZlW] at hf
  exact .inr (.inr (.inr (.inl ⟨by omega,by omega,a,b,ha,by omega⟩)))
 rw [Zl7 o3] at h
 by_cases o4:14 ≤ t.Op ∧ t.Op ≤ 16
 ·rw [Zl6 o4] at h
  obtain ⟨a,b,ha,hf⟩:=k2 (fun a b=>a == b && t.W == 1) h
  simp only [Zl0,ZlW] at hf
  exact .inr (.inr (.inr (.inl ⟨by omega,by omega,a,b,ha,hf.1⟩)))
 rw [Zl7 o4] at h
 by_cases o5:t.Op = 17
 ·rw [Zl6 o5] at h
  obtain ⟨a,b,c,ha,hf⟩:=k3 (fun a b c=>a == 1 && b == t.W && c == t.W) h
  exact .inr (.inr (.inr (.inr (.inl ⟨o5,a,b,c,ha⟩))))
 rw [Zl7 o5] at h
 by_cases o6:t.Op = 18
 ·rw [Zl6 o6] at h
  obtain ⟨a,b,ha,hf⟩:=k2 (fun a b=>a + b == t.W) h
  exact .inr (.inr (.inr (.inr (.inr (.inl ⟨o6,a,b,ha⟩)))))
 rw [Zl7 o6] at h
 by_cases o7:t.Op = 19
 ·rw [Zl6 o7] at h
  obtain ⟨a,ha,hf⟩:=k1 (fun a=>decide (0 ≤ t.N ∧ t.N ≤ 16) && decide (t.N + t.W ≤ a)) h
  simp only [Zl0,ZlB] at hf
  exact .inr (.inr (.inr (.inr (.inr (.inr (.inl ⟨o7,by omega,by omega,a,ha⟩))))))
 rw [Zl7 o7] at h
 by_cases o8:20 ≤ t.Op ∧ t.Op ≤ 21
 ·rw [Zl6 o8] at h
  obtain ⟨a,ha,hf⟩:=k1 (fun a=>decide (a ≤ t.W)) h
  exact .inr (.inr (.inr (.inr (.inr (.inr (.inr ⟨by omega,a,ha⟩))))))
 rw [Zl7 o8] at h; cases h
def upI (k:Int) (L:Nat):List Int:=(List.range L).map fun (j:Nat)=>k + (j:Int)
theorem ZhE (k:Int) (L:Nat):(upI k L).length = L:=by simp [upI]
theorem ZkD {k:Int} {L i:Nat} (h:i < L):(upI k L)[i]? = some (k + (i:Int)):=by simp [upI,h]
theorem ZaF {p:List Int} {k:Int} (hk:0 ≤ k) (hb:k ≤ 100000000000000000) (hp:p.length ≤ 1048576):Yi fuel p k = some (k + p.length,upI k p.length):=by
 unfold Yi
 rw [Zcy (I:=fun i s=>s = (k + (i:Int),(i:Int),pre (fun (j:Nat)=>k + (j:Int)) p i)) (m:=p.length) (r:=(k + (p.length:Int),upI k p.length)) (fun i s hi hs=>?_) (fun s hs=>?_) p.length 0 _ (by omega) (by simp [ZgQ]) fuel (Yy hp)]
 ·rfl
 ·subst hs
  refine ⟨_,?_,rfl⟩
  simp only
  rw [Zl6 (by rw [Zg]; simp; omega),set?_nat (by rw [ZhM (by omega)]; exact hi),ZhJ hi]
  simp only [Zlx]
  rw [Zk (by omega) (by omega),Zk (by omega) (by omega)]
  simp only [Option.some.injEq,Sum.inl.injEq,Prod.mk.injEq,Zne]
  omega
 ·subst hs
  simp only
  rw [Zl7 (by rw [Zg]; simp),ZhH]
  rfl
theorem Zee {L:Nat} {k:Int} (hk:0 ≤ k) (hb:k ≤ 100000000000000000) (hp:L ≤ 1048576):Yz fuel (upI k L) k = some (k + L):=by
 unfold Yz
 rw [Zcy (I:=fun i s=>s = (k + (i:Int),(i:Int))) (m:=L) (r:=.inl (k + (L:Int))) (fun i s hi hs=>?_) (fun s hs=>?_) L 0 _ (by omega) (by simp) fuel (Yy hp)]
 ·rfl
 ·subst hs
  refine ⟨_,?_,rfl⟩
  simp only
  rw [Zl6 (by rw [Zg,ZhE]; simp; omega),get?_nat,ZkD hi]
  simp only [Zlx]
  rw [Zl7 (by simp),Zk (by omega) (by omega),Zk (by omega) (by omega)]
  simp only [Option.some.injEq,Sum.inl.injEq,Prod.mk.injEq]
  omega
 ·subst hs
  simp only
  rw [Zl7 (by rw [Zg,ZhE]; simp)]
theorem ZgA {p:List D.Ins} {k:Int} (hk:0 ≤ k) (hb:k ≤ 100000000000000000) (hp:p.length ≤ 1048576):∃ r,Zax fuel p k = some (k + 4 * p.length,r):=by
 refine ⟨(List.range p.length).map fun (j:Nat)=>⟨k + 4 * (j:Int),k + 4 * (j:Int) + 1,k + 4 * (j:Int) + 2,k + 4 * (j:Int) + 3⟩,?_⟩
 unfold Zax
 rw [Zcy (I:=fun i s=>s = (k + 4 * (i:Int),(i:Int),pre (fun (j:Nat)=>(⟨k + 4 * (j:Int),k + 4 * (j:Int) + 1,k + 4 * (j:Int) + 2,k + 4 * (j:Int) + 3⟩ : D.Ins)) p i)) (m:=p.length) (r:=(k + 4 * (p.length:Int),(List.range p.length).map fun (j:Nat)=>(⟨k + 4 * (j:Int),k + 4 * (j:Int) + 1,k + 4 * (j:Int) + 2,k + 4 * (j:Int) + 3⟩ : D.Ins))) (fun i s hi hs=>?_) (fun s hs=>?_) p.length 0 _ (by omega) (by simp [ZgQ]) fuel (Yy hp)]
 ·rfl
 ·subst hs
  refine ⟨_,?_,rfl⟩
  have hl:=ZhM (f:=fun (j:Nat)=>(⟨k + 4 * (j:Int),k + 4 * (j:Int) + 1,k + 4 * (j:Int) + 2,k + 4 * (j:Int) + 3⟩ : D.Ins)) (p:=p) (i:=i) (by omega)
  simp only
  rw [Zl6 (by rw [Zg]; simp; omega),get?_nat,Zkl hi,Zl1 hi]
  simp only [Zlx]
  rw [set?_nat (by rw [hl]; exact hi)]
  simp only [Zlx]
  rw [get?_nat,ZmL (by rw [hl]; exact hi)]
  simp only [Zlx]
  rw [set?_nat (by simp [hl]; exact hi),List.set_set]
  simp only [Zlx]
  rw [get?_nat,ZmL (by rw [hl]; exact hi)]
  simp only [Zlx]
  rw [set?_nat (by simp [hl]; exact hi),List.set_set]
  simp only [Zlx]
  rw [get?_nat,ZmL (by rw [hl]; exact hi)]
  simp only [Zlx]
  rw [set?_nat (by simp [hl]; exact hi),List.set_set]
  simp only [Zlx]
  rw [Zk (x:=k + 4 * (i:Int) + 1) (by omega) (by omega),Zk (x:=k + 4 * (i:Int) + 1 + 1) (by omega) (by omega),Zk (x:=k + 4 * (i:Int) + 1 + 1 + 1) (by omega) (by omega),Zk (x:=k + 4 * (i:Int) + 1 + 1 + 1 + 1) (by omega) (by omega),Zk (x:=(i:Int) + 1) (by omega) (by omega),← ZhJ hi]
  simp only [Option.some.injEq,Sum.inl.injEq,Prod.mk.injEq]
  refine ⟨by omega,by omega,?_⟩
  refine congrArg (fun q=>List.set _ i q) ?_
  simp only [D.Ins.mk.injEq]
  refine ⟨trivial,trivial,?_,?_⟩ <;> omega
 ·subst hs
  simp only
  rw [Zl7 (by rw [Zg]; simp),ZhH]
theorem ZeA {x:D.Program} {k:Int} (hk:0 ≤ k) (hb:k ≤ 100000000000000000) (hp:x.Code.length ≤ 1048576):∃ k' r,X3 fuel x k = some (k',r) ∧ k ≤ k' ∧ k' ≤ k + 4194304:=by
 obtain ⟨r,hr⟩:=ZgA hk hb hp
 unfold X3
 rw [hr]
 exact ⟨_,_,rfl,by simp only; omega,by simp only; omega⟩
theorem Zf2:∀ (d:Nat) (j:Int) (s:Str) (n:Nat),0 ≤ j → j ≤ 200000000000000000 → j < 10 ^ d → s.bytes.length + d ≤ 1000 → d < n → ∃ o:Str,iterN (fun (s1:Int × Str)=>
   if (decide (s1.1 > 0)) then
    (rem? s1.1 10).bind fun x1=>
    (cat? (strOf ([(Byt.mk (IntKind.u8.wrap (w64 (48 + x1))))]:List Byt)) s1.2).bind fun x2=>
    (quo? s1.1 10).bind fun x3=>
    some (.inl (x3,x2))
   else
    some (.inr (s1.2))) n (j,s) = some o ∧ o.bytes.length ≤ 1000
 | d,j,s,0,_,_,_,_,h=>by omega
 | 0,j,s,n + 1,h0,_,h1,h2,_=>by
  have:j = 0:=by simp at h1; omega
  subst this
  exact ⟨s,by unfold iterN; rfl,by omega⟩
 | d + 1,j,s,n + 1,h0,hb,h1,h2,h3=>by
  by_cases c:0 < j
  ·have c1 : decide (j > 0) = true := decide_eq_true c
   have c2:rem? j 10 = some (j.tmod 10):=by unfold rem?; rw [Zl7 (by omega)]
   have hj:j / 10 < 10 ^ d:=by
    rw [Int.pow_succ] at h1; omega
   have c3:quo? j 10 = some (j / 10):=by
    unfold quo?
    rw [Zl7 (by omega),Znp h0,Zk (by omega) (by omega)]
   have c4:cat? (strOf ([(Byt.mk (IntKind.u8.wrap (w64 (48 + j.tmod 10))))]:List Byt)) s = some ⟨(strOf ([(Byt.mk (IntKind.u8.wrap (w64 (48 + j.tmod 10))))]:List Byt)).bytes ++ s.bytes⟩:=by
    unfold cat?
    rw [Zl6 (by simp [strOf]; omega)]
   obtain ⟨o,g1,g2⟩:=Zf2 d (j / 10) ⟨(strOf ([(Byt.mk (IntKind.u8.wrap (w64 (48 + j.tmod 10))))]:List Byt)).bytes ++ s.bytes⟩ n (by omega) (by omega) hj (by simp [strOf]; omega) (by omega)
   refine ⟨o,?_,g2⟩
   unfold iterN
   simp only [c1,ZlL,c2,Zlx,c4,c3]
   exact g1
  ·have : decide (j > 0) = false := decide_eq_false c
   exact ⟨s,by unfold iterN; simp only [this,Zly,Zl4],by omega⟩
theorem Zij {k:Int} {n:Nat} (h0:0 ≤ k) (h1:k ≤ 200000000000000000) (hn:20 ≤ n):∃ s,ZV n k = some s:=by
 unfold ZV
 by_cases c:k ≤ 0
 ·rw [Zl6 (by simpa using c)]; exact ⟨_,rfl⟩
 rw [Zl7 (by simpa using c)]
 obtain ⟨o,e1,e2⟩:=Zf2 18 k ⟨[]⟩ n h0 h1 (by omega) (by simp) (by omega)
 rw [e1]
 simp only [Zlx]
 unfold cat?
 rw [Zl6 (by simp; omega)]
 exact ⟨_,rfl⟩
theorem Zhe:∀ (n:Nat) (l:List D.Term) (k:Int),l.length + mszs l ≤ 1048576 → 1048580 + (l.length + mszs l) ≤ n → 0 ≤ k → k + 4 * ((l.length:Int) + mszs l) ≤ 100000000000000000 → ∃ r,Zv n l k = some r ∧ k ≤ r.1 ∧ r.1 ≤ k + 4 * ((l.length:Int) + mszs l):=by
 intro n
 induction n with
 | zero=>intro l k _ h; omega
 | succ n ih=>
  intro l k hs hn h0 hb
  rw [Zv]
  obtain ⟨r,g1,g2⟩:=ZN (l:=l) (n:=n) (σ:=Int × List D.Term) (ρ:=Int × List D.Term) (B:=fun (s1:Int × Int × (List D.Term))=>
  if (decide (s1.2.1 < (len l))) then
   (get? s1.2.2 s1.2.1).bind fun x1=>
   (ZV n (w64 ((w64 ((w64 (s1.1 + 1)) + 1)) + 1))).bind fun x2=>
   (Zv n x1.Kids (w64 ((w64 ((w64 ((w64 (s1.1 + 1)) + 1)) + 1)) + 1))).bind fun x3=>
   (set? s1.2.2 s1.2.1 (D.Term.mk s1.1 (w64 (s1.1 + 1)) (w64 ((w64 (s1.1 + 1)) + 1)) x2 x3.2)).bind fun x4=>
   some (.inl (x3.1,(w64 (s1.2.1 + 1)),x4))
  else
   some (.inr (s1.1,s1.2.2))) (fun j a=>(a.1,(j:Int),a.2))
   (fun ys a=>(∃ pre,a.2 = pre ++ ys ∧ pre.length + ys.length = l.length) ∧ ys.length + mszs ys ≤ l.length + mszs l ∧ k ≤ a.1 ∧ a.1 + 4 * ((ys.length:Int) + mszs ys) ≤ k + 4 * ((l.length:Int) + mszs l))
   (fun r=>k ≤ r.1 ∧ r.1 ≤ k + 4 * ((l.length:Int) + mszs l))
   (fun j x xs a hj hx hlen ⟨⟨pre, i1, i2⟩, i3, i4, i5⟩ => by
    obtain ⟨q,z⟩:=a
    simp only at i1 i4 i5 ⊢
    have hz:=XI x
    rw [XQ] at i3 i5
    simp only [ZlO] at i2 i3 i5 hlen
    have hp:pre.length = j:=by omega
    have hd:decide ((j:Int) < len l) = true:=by rw [Zg]; simp; omega
    have hg:z[j]? = some x:=by rw [i1,Zl5 (by omega),hp,Zmh]; rfl
    simp only [hd,ZlL,get?_nat,hg,Zlx]
    rw [Zk (x:=q + 1) (by omega) (by omega),Zk (x:=q + 1 + 1) (by omega) (by omega),Zk (x:=q + 1 + 1 + 1) (by omega) (by omega),Zk (x:=q + 1 + 1 + 1 + 1) (by omega) (by omega)]
    obtain ⟨tx,ht⟩:=Zij (k:=q + 1 + 1 + 1) (n:=n) (by omega) (by omega) (by omega)
    obtain ⟨⟨k3,r3⟩,m1,m2,m3⟩:=ih x.Kids (q + 1 + 1 + 1 + 1) (by omega) (by omega) (by omega) (by omega)
    simp only at m2 m3
    rw [ht]
    simp only [Zlx]
    rw [m1]
    simp only [Zlx]
    rw [set?_nat (by rw [i1]; simp; omega)]
    refine .inl ⟨(k3,z.set j (D.Term.mk q (q + 1) (q + 1 + 1) tx r3)),by simp only [Zlx]; rw [Zk (by omega) (by omega)]; rfl,⟨pre ++ [D.Term.mk q (q + 1) (q + 1 + 1) tx r3],?_,by simp; omega⟩,by omega,by show k ≤ k3; omega,by show k3 + _ ≤ _; omega⟩
    show z.set j _ = _
    rw [i1,Zmo _ _ (by omega),hp,Zmh]; simp)
   (fun a ⟨_, _, i4, i5⟩ => by
    have hd:decide ((l.length:Int) < len l) = false:=by rw [Zg]; simp
    simp only [hd,Zly,Zl4]
    rw [Zca] at i5
    simp only [Zmu] at i5
    exact ⟨_,rfl,i4,by omega⟩) (a:=(k,l)) ⟨⟨[],rfl,by simp⟩,by omega,by show k ≤ k; omega,by show k + _ ≤ _; omega⟩ (by omega)
  rw [show ((0:Nat):Int) = 0 from rfl] at g1
  rw [g1]
  exact ⟨_,rfl,g2⟩
theorem ZbF {l:List D.Term} {k:Int} (h:sml l) (h0:0 ≤ k) (h1:k ≤ 90000000000000000):∃ k' r,Zv fuel l k = some (k',r) ∧ k ≤ k' ∧ k' ≤ k + 4194304:=by
 unfold sml at h
 obtain ⟨⟨k',r⟩,e,a,b⟩:=Zhe fuel l k h (by unfold fuel; omega) h0 (by omega)
 exact ⟨k',r,e,a,by simp only at b; omega⟩
theorem Zi8 {x:D.Path} {k:Int} (h:smallP x) (h0:0 ≤ k) (h1:k ≤ 50000000000000000):∃ k' r,Zay fuel x k = some (k',r) ∧ k ≤ k' ∧ k' ≤ k + 30000000:=by
 obtain ⟨s1,s2,s3,s4,s5,s6⟩:=h
 obtain ⟨k1,r1,e1,a1,b1⟩:=ZbF (k:=k) s1 (by omega) (by omega)
 obtain ⟨k2,r2,e2,a2,b2⟩:=ZbF (k:=k1) s2 (by omega) (by omega)
 have e3:=ZaF (p:=x.Stack) (k:=k2) (by omega) (by omega) s3
 obtain ⟨k4,r4,e4,a4,b4⟩:=ZbF (k:=k2 + x.Stack.length) s4 (by omega) (by omega)
 obtain ⟨k5,r5,e5,a5,b5⟩:=ZbF (k:=k4) s5 (by omega) (by omega)
 have e6:=ZaF (p:=x.Turns) (k:=k5) (by omega) (by omega) s6
 unfold Zay
 simp only [e1,e2,e3,e4,e5,e6,Zlx]
 exact ⟨_,_,rfl,by omega,by omega⟩
theorem Zfa:∀ (d:Nat) (j:Int) (s:Str),0 ≤ j → j ≤ 200000000000000000 → j < 10 ^ d → s.bytes.length + d ≤ 1000 → ∃ o:Str,(∀ n,d < n → iterN (fun (s1:Int × Str)=>
   if (decide (s1.1 > 0)) then
    (rem? s1.1 10).bind fun x1=>
    (cat? (strOf ([(Byt.mk (IntKind.u8.wrap (w64 (48 + x1))))]:List Byt)) s1.2).bind fun x2=>
    (quo? s1.1 10).bind fun x3=>
    some (.inl (x3,x2))
   else
    some (.inr (s1.2))) n (j,s) = some o) ∧ o.bytes.length ≤ 1000
 | 0,j,s,h0,_,h1,h2=>by
  have:j = 0:=by simp at h1; omega
  subst this
  exact ⟨s,fun n hn=>by obtain ⟨n,rfl⟩ : ∃ m,n = m + 1:=⟨n - 1,by omega⟩; unfold iterN; rfl,by omega⟩
 | d + 1,j,s,h0,hb,h1,h2=>by
  by_cases c:0 < j
  ·have c1 : decide (j > 0) = true := decide_eq_true c
   have c2:rem? j 10 = some (j.tmod 10):=by unfold rem?; rw [Zl7 (by omega)]
   have hj:j / 10 < 10 ^ d:=by
    rw [Int.pow_succ] at h1; omega
   have c3:quo? j 10 = some (j / 10):=by
    unfold quo?
    rw [Zl7 (by omega),Znp h0,Zk (by omega) (by omega)]
   have c4:cat? (strOf ([(Byt.mk (IntKind.u8.wrap (w64 (48 + j.tmod 10))))]:List Byt)) s = some ⟨(strOf ([(Byt.mk (IntKind.u8.wrap (w64 (48 + j.tmod 10))))]:List Byt)).bytes ++ s.bytes⟩:=by
    unfold cat?
    rw [Zl6 (by simp [strOf]; omega)]
   obtain ⟨o,g1,g2⟩:=Zfa d (j / 10) ⟨(strOf ([(Byt.mk (IntKind.u8.wrap (w64 (48 + j.tmod 10))))]:List Byt)).bytes ++ s.bytes⟩ (by omega) (by omega) hj (by simp [strOf]; omega)
   refine ⟨o,fun n hn=>?_,g2⟩
   obtain ⟨n,rfl⟩ : ∃ m,n = m + 1:=⟨n - 1,by omega⟩
   unfold iterN
   simp only [c1,ZlL,c2,Zlx,c4,c3]
   exact g1 n (by omega)
  ·have : decide (j > 0) = false := decide_eq_false c
   exact ⟨s,fun n hn=>by obtain ⟨n,rfl⟩ : ∃ m,n = m + 1:=⟨n - 1,by omega⟩; unfold iterN; simp only [this,Zly,Zl4],by omega⟩
theorem ZiO {k:Int} (h0:0 ≤ k) (h1:k ≤ 200000000000000000):∃ s,∀ n,20 ≤ n → ZV n k = some s:=by
 by_cases c:k ≤ 0
 ·refine ⟨⟨[109, 48]⟩, fun n _ => ?_⟩
  unfold ZV
  rw [Zl6 (by simpa using c)]
 obtain ⟨o,e1,e2⟩:=Zfa 18 k ⟨[]⟩ h0 h1 (by omega) (by simp)
 refine ⟨⟨[109] ++ o.bytes⟩,fun n hn=>?_⟩
 unfold ZV
 rw [Zl7 (by simpa using c),e1 n (by omega)]
 simp only [Zlx]
 unfold cat?
 rw [Zl6 (by simp; omega)]
 rfl
def El (M:Nat) (q:Int) (x:D.Term) (q':Int):Prop:=0 ≤ q ∧ q ≤ 100000000000000000 ∧ ∃ tx ks,x = ⟨q,q + 1,q + 2,tx,ks⟩ ∧ (∀ n,20 ≤ n → ZV n (q + 3) = some tx) ∧ 0 ≤ q' ∧ ∀ m,1048580 + M ≤ m → Z5 m ks (q + 4) = some q'
def Ch (M:Nat):Int → List D.Term → Int → Prop
 | q,[],e=>q = e
 | q,x :: l,e=>∃ q',El M q x q' ∧ Ch M q' l e
theorem Ch.snoc {M:Nat} {x:D.Term} {e e':Int} (h':El M e x e'):∀ {l:List D.Term} {q:Int},Ch M q l e → Ch M q (l ++ [x]) e'
 | [],q,h=>by cases h; exact ⟨e',h',rfl⟩
 | y :: l,q,⟨q',h1,h2⟩=>⟨q',h1,h2.snoc h'⟩
theorem Zkp {M:Nat} {l:List D.Term} {k e:Int} {m:Nat} (h:Ch M k l e) (h0:0 ≤ k) (hl:l.length ≤ 1048576) (hm:1048580 + M ≤ m):Z5 (m + 1) l k = some e:=by
 rw [Z5]
 obtain ⟨r,g1,g2⟩:=ZN (l:=l) (n:=m) (σ:=Int) (ρ:=Int ⊕ Int) (B:=fun (s1:Int × Int)=>
  if (decide (s1.2 < (len l))) then
   (get? l s1.2).bind fun x1=>
   if (x1.Op != s1.1) then
    some (.inr (.inr (-1)))
   else
    (get? l s1.2).bind fun x2=>
    if (x2.W != (w64 (s1.1 + 1))) then
     some (.inr (.inr (-1)))
    else
     (get? l s1.2).bind fun x3=>
     if (x3.N != (w64 ((w64 (s1.1 + 1)) + 1))) then
      some (.inr (.inr (-1)))
     else
      (get? l s1.2).bind fun x4=>
      (ZV m (w64 ((w64 ((w64 (s1.1 + 1)) + 1)) + 1))).bind fun x5=>
      if (!(Str.eqb x4.Name x5)) then
       some (.inr (.inr (-1)))
      else
       (get? l s1.2).bind fun x6=>
       (Z5 m x6.Kids (w64 ((w64 ((w64 ((w64 (s1.1 + 1)) + 1)) + 1)) + 1))).bind fun x7=>
       if (decide (x7 < 0)) then
        some (.inr (.inr (-1)))
       else
        some (.inl (x7,(w64 (s1.2 + 1))))
  else
   some (.inr (.inl (s1.1)))) (fun j a=>(a,(j:Int))) (fun ys a=>Ch M a ys e) (fun r=>r = .inl e)
  (fun j x xs a hj hx hlen hch => by
   obtain ⟨q',⟨q0,q1,tx,ks,rfl,ht,hq,hh⟩,hc⟩:=hch
   have hd:decide ((j:Int) < len l) = true:=by rw [Zg]; simp; omega
   simp only [hd,ZlL,get?_nat,hx,Zlx]
   rw [Zk (x:=a + 1) (by omega) (by omega),Zk (x:=a + 1 + 1) (by omega) (by omega),Zk (x:=a + 1 + 1 + 1) (by omega) (by omega),Zk (x:=a + 1 + 1 + 1 + 1) (by omega) (by omega)]
   have e1:a + 1 + 1 + 1 = a + 3:=by omega
   have e2:a + 3 + 1 = a + 4:=by omega
   have e3:a + 1 + 1 = a + 2:=by omega
   rw [e1,e2,e3,ht m (by omega),hh m hm]
   simp only [Zlx,bne_self_eq_false,Zly,Zl4,Zag,ZlD]
   rw [Zl7 (by simpa using hq)]
   exact .inl ⟨q',by rw [Zk (by omega) (by omega)]; rfl,hc⟩)
  (fun a hch => by
   have hd:decide ((l.length:Int) < len l) = false:=by rw [Zg]; simp
   simp only [hd,Zly,Zl4]
   exact ⟨_,rfl,by rw [show a = e from hch]⟩) (a:=k) h (by omega)
 rw [show ((0:Nat):Int) = 0 from rfl] at g1
 rw [g1,g2]
 rfl
theorem Zix:∀ (n:Nat) (l:List D.Term) (k:Int),l.length + mszs l ≤ 1048576 → 1048580 + (l.length + mszs l) ≤ n → 0 ≤ k → k + 4 * ((l.length:Int) + mszs l) ≤ 50000000000000000 →
  ∃ r,Zv n l k = some r ∧ k ≤ r.1 ∧ r.1 ≤ k + 4 * ((l.length:Int) + mszs l) ∧ ∀ m,1048581 + (l.length + mszs l) ≤ m → Z5 m r.2 k = some r.1:=by
 intro n
 induction n with
 | zero=>intro l k _ h; omega
 | succ n ih=>
  intro l k hs hn h0 hb
  rw [Zv]
  obtain ⟨r,g1,g2,g3,g4,g5⟩:=ZN (l:=l) (n:=n) (σ:=Int × List D.Term) (ρ:=Int × List D.Term) (B:=fun (s1:Int × Int × (List D.Term))=>
  if (decide (s1.2.1 < (len l))) then
   (get? s1.2.2 s1.2.1).bind fun x1=>
   (ZV n (w64 ((w64 ((w64 (s1.1 + 1)) + 1)) + 1))).bind fun x2=>
   (Zv n x1.Kids (w64 ((w64 ((w64 ((w64 (s1.1 + 1)) + 1)) + 1)) + 1))).bind fun x3=>
   (set? s1.2.2 s1.2.1 (D.Term.mk s1.1 (w64 (s1.1 + 1)) (w64 ((w64 (s1.1 + 1)) + 1)) x2 x3.2)).bind fun x4=>
   some (.inl (x3.1,(w64 (s1.2.1 + 1)),x4))
  else
   some (.inr (s1.1,s1.2.2))) (fun j a=>(a.1,(j:Int),a.2))
   (fun ys a=>(∃ pre,a.2 = pre ++ ys ∧ pre.length + ys.length = l.length ∧ Ch (l.length + mszs l) k pre a.1) ∧ ys.length + mszs ys ≤ l.length + mszs l ∧ k ≤ a.1 ∧ a.1 + 4 * ((ys.length:Int) + mszs ys) ≤ k + 4 * ((l.length:Int) + mszs l))
   (fun r=>k ≤ r.1 ∧ r.1 ≤ k + 4 * ((l.length:Int) + mszs l) ∧ r.2.length = l.length ∧ Ch (l.length + mszs l) k r.2 r.1)
   (fun j x xs a hj hx hlen ⟨⟨pre, i1, i2, i6⟩, i3, i4, i5⟩ => by
    obtain ⟨q,z⟩:=a
    simp only at i1 i4 i5 i6 ⊢
    have hz:=XI x
    rw [XQ] at i3 i5
    simp only [ZlO] at i2 i3 i5 hlen
    have hp:pre.length = j:=by omega
    have hd:decide ((j:Int) < len l) = true:=by rw [Zg]; simp; omega
    have hg:z[j]? = some x:=by rw [i1,Zl5 (by omega),hp,Zmh]; rfl
    simp only [hd,ZlL,get?_nat,hg,Zlx]
    rw [Zk (x:=q + 1) (by omega) (by omega),Zk (x:=q + 1 + 1) (by omega) (by omega),Zk (x:=q + 1 + 1 + 1) (by omega) (by omega),Zk (x:=q + 1 + 1 + 1 + 1) (by omega) (by omega)]
    obtain ⟨tx,ht⟩:=ZiO (k:=q + 1 + 1 + 1) (by omega) (by omega)
    obtain ⟨⟨k3,r3⟩,m1,m2,m3,m4⟩:=ih x.Kids (q + 1 + 1 + 1 + 1) (by omega) (by omega) (by omega) (by omega)
    simp only at m2 m3 m4
    rw [ht n (by omega)]
    simp only [Zlx]
    rw [m1]
    simp only [Zlx]
    rw [set?_nat (by rw [i1]; simp; omega)]
    have e1:q + 1 + 1 + 1 = q + 3:=by omega
    have e2:q + 1 + 1 + 1 + 1 = q + 4:=by omega
    have e3:q + 1 + 1 = q + 2:=by omega
    rw [e2] at m4
    rw [e1] at ht
    refine .inl ⟨(k3,z.set j (D.Term.mk q (q + 1) (q + 1 + 1) tx r3)),by simp only [Zlx]; rw [Zk (by omega) (by omega)]; rfl,⟨pre ++ [D.Term.mk q (q + 1) (q + 1 + 1) tx r3],?_,by simp; omega,i6.snoc ⟨by omega,by omega,tx,r3,by rw [e3],ht,by omega,fun m hm=>m4 m (by omega)⟩⟩,by omega,by show k ≤ k3; omega,by show k3 + _ ≤ _; omega⟩
    show z.set j _ = _
    rw [i1,Zmo _ _ (by omega),hp,Zmh]; simp)
   (fun a ⟨⟨pre, j1, j2, j3⟩, _, i4, i5⟩ => by
    have hd:decide ((l.length:Int) < len l) = false:=by rw [Zg]; simp
    simp only [hd,Zly,Zl4]
    rw [Zca] at i5
    simp only [Zmu] at i5 j2
    rw [ZmB] at j1
    exact ⟨_,rfl,i4,by omega,by rw [j1]; omega,by rw [j1]; exact j3⟩) (a:=(k,l)) ⟨⟨[],rfl,by simp,rfl⟩,by omega,by show k ≤ k; omega,by show k + _ ≤ _; omega⟩ (by omega)
  rw [show ((0:Nat):Int) = 0 from rfl] at g1
  rw [g1]
  refine ⟨_,rfl,g2,g3,fun m hm=>?_⟩
  obtain ⟨m,rfl⟩ : ∃ m',m = m' + 1:=⟨m - 1,by omega⟩
  exact Zkp g5 h0 (by show r.2.length ≤ _; omega) (by omega)
def sg (a b:Int):Int:=if a < b then -1 else if a > b then 1 else 0
def ss (a b:Str):Int:=if a = b then 0 else if Str.ltb a b = true then -1 else 1
mutual
def ctm:D.Term → D.Term → Int
 | ⟨o,w,m,s,k⟩,t=>if sg o t.Op ≠ 0 then sg o t.Op else if sg w t.W ≠ 0 then sg w t.W else if sg m t.N ≠ 0 then sg m t.N else if ss s t.Name ≠ 0 then ss s t.Name else cts k t.Kids
def cts:List D.Term → List D.Term → Int
 | [],l=>sg 0 l.length
 | _ :: _,[]=>1
 | x :: l,y :: m=>if ctm x y ≠ 0 then ctm x y else cts l m
end
theorem Zc3 (a t:D.Term):ctm a t = if sg a.Op t.Op ≠ 0 then sg a.Op t.Op else if sg a.W t.W ≠ 0 then sg a.W t.W else if sg a.N t.N ≠ 0 then sg a.N t.N else if ss a.Name t.Name ≠ 0 then ss a.Name t.Name else cts a.Kids t.Kids:=by cases a; rw [ctm]
theorem Zd8 (l:List D.Term):cts [] l = sg 0 l.length:=by rw [cts]
theorem Zew (x:D.Term) (l:List D.Term):cts (x :: l) [] = 1:=by rw [cts]
theorem Zdj (x y:D.Term) (l m:List D.Term):cts (x :: l) (y :: m) = if ctm x y ≠ 0 then ctm x y else cts l m:=by rw [cts]
theorem Zhs (a b:Int):sg b a = - sg a b:=by unfold sg; split <;> split <;> (try split) <;> omega
theorem ZkW (a b:Str):ss b a = - ss a b:=by
 unfold ss
 by_cases e:a = b
 ·rw [Zl6 e,Zl6 e.symm]; rfl
 rw [Zl7 e,Zl7 fun h=>e h.symm]
 cases h:Str.ltb a b
 ·rw [ZjA h e]; rfl
 ·have:Str.ltb b a = false:=by
   cases h2:Str.ltb b a
   ·rfl
   ·have:=lt_trans h h2; rw [Zjb] at this; cases this
  rw [this]; rfl
theorem ZfN (a b:Int):sg a b = -1 ∨ sg a b = 0 ∨ sg a b = 1:=by unfold sg; split <;> (try split) <;> simp
theorem Zkw (a b:Str):ss a b = -1 ∨ ss a b = 0 ∨ ss a b = 1:=by unfold ss; split <;> (try split) <;> simp
theorem ZiT:∀ n:Nat,(∀ a b:D.Term,msz a < n → ctm b a = - ctm a b ∧ (ctm a b = -1 ∨ ctm a b = 0 ∨ ctm a b = 1)) ∧ ∀ l m:List D.Term,l.length + mszs l < n → cts m l = - cts l m ∧ (cts l m = -1 ∨ cts l m = 0 ∨ cts l m = 1):=by
 intro n
 induction n with
 | zero=>exact ⟨fun _ _ h=>by omega,fun _ _ h=>by omega⟩
 | succ n ih=>
  have hl:∀ l m:List D.Term,l.length + mszs l < n + 1 → cts m l = - cts l m ∧ (cts l m = -1 ∨ cts l m = 0 ∨ cts l m = 1):=by
   intro l m h
   cases l with
   | nil=>
    cases m with
    | nil=>rw [Zd8]; decide
    | cons y m=>rw [Zd8,Zew]; unfold sg; simp
   | cons x l=>
    cases m with
    | nil=>rw [Zd8,Zew]; unfold sg; simp
    | cons y m=>
     rw [XQ] at h
     simp only [ZlO] at h
     obtain ⟨a1,a2⟩:=ih.1 x y (by omega)
     obtain ⟨b1,b2⟩:=ih.2 l m (by omega)
     rw [Zdj,Zdj,a1]
     by_cases e:ctm x y = 0
     ·rw [e]; simpa using ⟨b1,b2⟩
     ·rw [Zl6 (by omega),Zl6 e]; exact ⟨rfl,a2⟩
  refine ⟨fun a b h=>?_,hl⟩
  have hz:=XI a
  obtain ⟨b1,b2⟩:=hl a.Kids b.Kids (by omega)
  rw [Zc3,Zc3,Zhs a.Op,Zhs a.W,Zhs a.N,ZkW a.Name,b1]
  have h1:=ZfN a.Op b.Op
  have h2:=ZfN a.W b.W
  have h3:=ZfN a.N b.N
  have h4:=Zkw a.Name b.Name
  by_cases e1:sg a.Op b.Op = 0
  ·by_cases e2 : sg a.W b.W = 0
   ·by_cases e3 : sg a.N b.N = 0
    ·by_cases e4 : ss a.Name b.Name = 0
     ·simp [e1,e2,e3,e4,b2]
     ·simp [e1,e2,e3,e4]; omega
    ·simp [e1,e2,e3]; omega
   ·simp [e1,e2]; omega
  ·simp [e1]; omega
theorem ZkI (a b:D.Term):ctm b a = - ctm a b:=((ZiT (msz a + 1)).1 a b (by omega)).1
theorem Ze4 (a b:D.Term):ctm a b = -1 ∨ ctm a b = 0 ∨ ctm a b = 1:=((ZiT (msz a + 1)).1 a b (by omega)).2
theorem ZkM:∀ x y:List UInt8,Lib.compareBytes x y = if x = y then 0 else if Op.bytesLess x y = true then -1 else 1
 | [],[]=>by simp [Lib.compareBytes]
 | [],_ :: _=>by simp [Lib.compareBytes,Op.bytesLess]
 | _ :: _,[]=>by simp [Lib.compareBytes,Op.bytesLess]
 | a :: x,b :: y=>by
  rw [Lib.compareBytes,ZkM x y]
  by_cases h1:a < b
  ·have : a ≠ b := fun e => by subst e; exact absurd h1 (UInt8.lt_irrefl a)
   simp [h1,this,Op.bytesLess]
  ·by_cases h2 : b < a
   ·have : a ≠ b := fun e => by subst e; exact absurd h2 (UInt8.lt_irrefl a)
    simp [h1,h2,this,Op.bytesLess]
   ·have:a = b:=by
     have h3:¬ a.toNat < b.toNat:=h1
     have h4:¬ b.toNat < a.toNat:=h2
     exact UInt8.toNat_inj.1 (by omega)
    subst this
    simp [h1,Op.bytesLess]
theorem Zkq (a b:Str):strings_Compare a b = some (ss a b):=by
 unfold strings_Compare ss
 rw [ZkM,ZfQ]
 have:(a.bytes = b.bytes) = (a = b):=by
  cases a; cases b; simp
 simp only [this]
theorem Zke (a b:Int):Xk a b = some (sg a b):=by
 unfold Xk sg
 by_cases h1:a < b
 ·simp [h1]
 ·by_cases h2:a > b <;> simp [h1,h2]
theorem Zko (a b:Int):Yt a b = some (sg a b):=by
 unfold Yt Zak sg
 by_cases h1:a < b
 ·simp [h1]
 ·by_cases h2:a > b <;> simp [h1,h2]
theorem Zhb (x y z:Int) {n:Nat} (hn:4 ≤ n):iterN (fun (s1:Int)=>
  if (decide (s1 < (len ([x,y,z]:List Int)))) then
   (get? ([x,y,z]:List Int) s1).bind fun x4=>
   if (x4 != 0) then
    some (.inr (.inr x4))
   else
    some (.inl ((w64 (s1 + 1))))
  else
   some (.inr (.inl ()))) n 0 = some (if x ≠ 0 then (.inr x:Unit ⊕ Int) else if y ≠ 0 then .inr y else if z ≠ 0 then .inr z else .inl ()):=by
 obtain ⟨n,rfl⟩ : ∃ m,n = m + 4:=⟨n - 4,by omega⟩
 by_cases h1:x = 0
 ·by_cases h2 : y = 0
  ·by_cases h3 : z = 0
   ·subst h1 h2 h3; rfl
   ·subst h1 h2
    simp [iterN,Zg,get?,h3,Zk]
  ·subst h1
   simp [iterN,Zg,get?,h2,Zk]
 ·simp [iterN,Zg,get?,h1]
theorem ZcF:∀ (n:Nat) (a b:D.Term),msz a ≤ 1048576 → 1048580 + cnt a ≤ n → ZB n a b = some (ctm a b):=by
 intro n
 induction n with
 | zero=>intro a b _ _; omega
 | succ n ih=>
  intro a b hs hn
  have hz:=XI a
  have hc:=XC a
  unfold ZB
  simp only [Zke,Zlx,Zhb _ _ _ (show 4 ≤ n by omega)]
  rw [Zc3]
  by_cases e1:sg a.Op b.Op = 0
  rotate_left
  ·simp [e1]
  by_cases e2:sg a.W b.W = 0
  rotate_left
  ·simp [e1,e2]
  by_cases e3:sg a.N b.N = 0
  rotate_left
  ·simp [e1,e2,e3]
  simp only [e1,e2,e3,ne_eq,not_true_eq_false,Zl4]
  by_cases e4:a.Name = b.Name
  rotate_left
  ·have : Str.eqb a.Name b.Name = false := by rw [Zck]; simpa using e4
   simp only [this,ZmE,ZlL]
   unfold ss
   rw [Zl7 e4]
   cases Str.ltb a.Name b.Name <;> simp
  have:Str.eqb a.Name b.Name = true:=by rw [Zck]; simpa using e4
  have e5:ss a.Name b.Name = 0:=by unfold ss; rw [Zl6 e4]
  simp only [this,e5,ZlD,Zly,not_true_eq_false,Zl4]
  obtain ⟨r,g1,g2⟩:=ZN (l:=a.Kids) (n:=n) (σ:=Unit) (ρ:=Unit ⊕ Int) (B:=fun (s2:Int)=>
    if (decide (s2 < (len a.Kids))) then
     (get? a.Kids s2).bind fun x5=>
     if (s2 == (len b.Kids)) then
      some (.inr (.inr 1))
     else
      (get? b.Kids s2).bind fun x6=>
      (ZB n x5 x6).bind fun x7=>
      if (x7 != 0) then
       some (.inr (.inr x7))
      else
       some (.inl ((w64 (s2 + 1))))
    else
     some (.inr (.inl ()))) (fun k _=>(k:Int)) (fun ys _=>a.Kids.length - ys.length ≤ b.Kids.length ∧ ys.length ≤ a.Kids.length ∧ cts ys (b.Kids.drop (a.Kids.length - ys.length)) = cts a.Kids b.Kids ∧ ∀ x ∈ ys,x ∈ a.Kids)
    (fun r=>(r = .inl () ∧ sg a.Kids.length b.Kids.length = cts a.Kids b.Kids) ∨ r = .inr (cts a.Kids b.Kids))
    (fun k x xs _ hk' hx hlen ⟨i0, i1, i2, i3⟩ => by
     have hm:=Xo (i3 x (by simp))
     have hcm:=Zb3 (i3 x (by simp))
     have hk:a.Kids.length - (x :: xs).length = k:=by omega
     rw [hk] at i0 i2
     have hd:decide ((k:Int) < len a.Kids) = true:=by rw [Zg]; simp; omega
     simp only [hd,ZlL,get?_nat,hx,Zlx]
     by_cases hb:k = b.Kids.length
     ·refine .inr ⟨.inr 1, by rw [Zg]; simp [hb], .inr ?_⟩
      rw [← i2,hb,List.drop_length,Zew]
     ·have hbk : k < b.Kids.length := by omega
      have hy:b.Kids[k]? = some b.Kids[k]:=Zl1 hbk
      have hbeq:((k:Int) == len b.Kids) = false:=by rw [Zg]; simp; omega
      rw [ZlR hbk,Zdj] at i2
      simp only [hbeq,Zly,Zl4,hy,Zlx]
      rw [ih x b.Kids[k] (by omega) (by omega)]
      simp only [Zlx]
      by_cases e:ctm x b.Kids[k] = 0
      ·rw [e] at i2 ⊢
       refine .inl ⟨(),by rw [Zk (by omega) (by omega)]; rfl,by simp at hlen; omega,by simp at hlen; omega,?_,fun y hy=>i3 y (by simp [hy])⟩
       have:a.Kids.length - xs.length = k + 1:=by simp at hlen; omega
       rw [this]; simpa using i2
      ·refine .inr ⟨.inr (ctm x b.Kids[k]), by simp [e], .inr ?_⟩
       rw [← i2,Zl6 e])
    (fun _ ⟨i0, i1, i2, _⟩ => by
     have hd:decide ((a.Kids.length:Int) < len a.Kids) = false:=by rw [Zg]; simp
     simp only [hd,Zly,Zl4]
     refine ⟨.inl (),rfl,.inl ⟨rfl,?_⟩⟩
     rw [← i2,Zd8]
     simp only [Zmu,Zn1,ZmT] at i0 ⊢
     unfold sg
     split <;> split <;> (try split) <;> (try split) <;> omega) (a:=()) ⟨by omega,by omega,by rw [Zmh]; rfl,fun x hx=>hx⟩ (by omega)
  rw [show ((0:Nat):Int) = 0 from rfl] at g1
  rw [g1]
  rcases g2 with ⟨rfl,g2⟩ | rfl
  ·simp only [Zlx,Zg,g2]
  ·rfl
theorem Zc7:∀ (n:Nat) (a b:D.Term),msz a ≤ 1048576 → 1048580 + cnt a ≤ n → ZC n a b = some (ctm a b):=by
 intro n
 induction n with
 | zero=>intro a b _ _; omega
 | succ n ih=>
  intro a b hs hn
  have hz:=XI a
  have hc:=XC a
  unfold ZC
  simp only [Zko,Zkq,Zlx]
  rw [Zc3]
  by_cases e1:sg a.Op b.Op = 0
  rotate_left
  ·simp [e1]
  by_cases e2:sg a.W b.W = 0
  rotate_left
  ·simp [e1,e2]
  by_cases e3:sg a.N b.N = 0
  rotate_left
  ·simp [e1,e2,e3]
  by_cases e4:ss a.Name b.Name = 0
  rotate_left
  ·simp [e1,e2,e3,e4]
  simp only [e1,e2,e3,e4,ne_eq,not_true_eq_false,Zl4,bne_self_eq_false,Zly]
  obtain ⟨r,g1,g2⟩:=ZN (l:=a.Kids) (n:=n) (σ:=Unit) (ρ:=Unit ⊕ Int) (B:=fun (s1:Int)=>
      if ((decide (s1 < (len a.Kids))) && (decide (s1 < (len b.Kids)))) then
       (get? a.Kids s1).bind fun x5=>
       (get? b.Kids s1).bind fun x6=>
       (ZC n x5 x6).bind fun x7=>
       if (x7 != 0) then
        some (.inr (.inr x7))
       else
        some (.inl ((w64 (s1 + 1))))
      else
       some (.inr (.inl ()))) (fun k _=>(k:Int)) (fun ys _=>a.Kids.length - ys.length ≤ b.Kids.length ∧ ys.length ≤ a.Kids.length ∧ cts ys (b.Kids.drop (a.Kids.length - ys.length)) = cts a.Kids b.Kids ∧ ∀ x ∈ ys,x ∈ a.Kids)
    (fun r=>(r = .inl () ∧ sg a.Kids.length b.Kids.length = cts a.Kids b.Kids) ∨ r = .inr (cts a.Kids b.Kids))
    (fun k x xs _ hk' hx hlen ⟨i0, i1, i2, i3⟩ => by
     have hm:=Xo (i3 x (by simp))
     have hcm:=Zb3 (i3 x (by simp))
     have hk:a.Kids.length - (x :: xs).length = k:=by omega
     rw [hk] at i0 i2
     have hd:decide ((k:Int) < len a.Kids) = true:=by rw [Zg]; simp; omega
     by_cases hb:k = b.Kids.length
     ·refine .inr ⟨.inl (), by rw [Zg, Zg]; simp [hb], .inl ⟨rfl, ?_⟩⟩
      rw [← i2,hb,List.drop_length,Zew]
      unfold sg
      rw [Zl7 (by omega),Zl6 (by omega)]
     ·have hbk : k < b.Kids.length := by omega
      have hy:b.Kids[k]? = some b.Kids[k]:=Zl1 hbk
      have hd2:decide ((k:Int) < len b.Kids) = true:=by rw [Zg]; simp; omega
      rw [ZlR hbk,Zdj] at i2
      simp only [hd,hd2,ZmR,ZlL,get?_nat,hx,hy,Zlx]
      rw [ih x b.Kids[k] (by omega) (by omega)]
      simp only [Zlx]
      by_cases e:ctm x b.Kids[k] = 0
      ·rw [e] at i2 ⊢
       refine .inl ⟨(),by rw [Zk (by omega) (by omega)]; rfl,by simp at hlen; omega,by simp at hlen; omega,?_,fun y hy=>i3 y (by simp [hy])⟩
       have:a.Kids.length - xs.length = k + 1:=by simp at hlen; omega
       rw [this]; simpa using i2
      ·refine .inr ⟨.inr (ctm x b.Kids[k]), by simp [e], .inr ?_⟩
       rw [← i2,Zl6 e])
    (fun _ ⟨i0, i1, i2, _⟩ => by
     have hd:decide ((a.Kids.length:Int) < len a.Kids) = false:=by rw [Zg]; simp
     simp only [hd,Zmt,Zly,Zl4]
     refine ⟨.inl (),rfl,.inl ⟨rfl,?_⟩⟩
     rw [← i2,Zd8]
     simp only [Zmu,Zn1,ZmT] at i0 ⊢
     unfold sg
     split <;> split <;> (try split) <;> (try split) <;> omega) (a:=()) ⟨by omega,by omega,by rw [Zmh]; rfl,fun x hx=>hx⟩ (by omega)
  rw [show ((0:Nat):Int) = 0 from rfl] at g1
  rw [g1]
  rcases g2 with ⟨rfl,g2⟩ | rfl
  ·simp only [Zlx,Zg,g2]
  ·rfl
theorem Zby {n:Nat} {a b:D.Term} (h1:msz a ≤ 1048576) (h2:1048580 + cnt a ≤ n):Yb n a b = some (ctm a b == 0):=by
 unfold Yb; rw [ZcF n a b h1 h2]; rfl
theorem Zb0 {n:Nat} {a b:D.Term} (h1:msz a ≤ 1048576) (h2:1048580 + cnt a ≤ n):ZX n a b = some (ctm a b == 0):=by
 unfold ZX; rw [Zc7 n a b h1 h2]; rfl
theorem Zc1 {x:Int} (h0:0 ≤ x) (h1:x < 65536):(BitVec.ofInt 64 x).toNat = x.toNat:=by
 rw [BitVec.toNat_ofInt]
 rw [Int.emod_eq_of_lt h0 (by omega)]
theorem ZdT {w:Int} (h1:1 ≤ w) (h2:w ≤ 16):(2:Int) ^ w.toNat = ((2 ^ w.toNat:Nat):Int) ∧ (2 ^ w.toNat:Nat) ≤ 65536 ∧ 2 ≤ (2 ^ w.toNat:Nat):=by
 rcases Zeh h1 h2 with rfl | rfl | rfl | rfl | rfl | rfl | rfl | rfl | rfl | rfl | rfl | rfl | rfl | rfl | rfl | rfl <;> decide
theorem Zk1 {w a b:Int} (h1:1 ≤ w) (h2:w ≤ 16) (ha:wordB w a = true) (hb:wordB w b = true):wordB w (band a b) = true ∧ wordB w (bor a b) = true ∧ wordB w (bxor a b) = true:=by
 obtain ⟨p1,p2,p3⟩:=ZdT h1 h2
 rw [ZZ h1 h2] at ha hb
 rw [p1] at ha hb
 have ea:=Zc1 ha.1 (by omega)
 have eb:=Zc1 hb.1 (by omega)
 have la:a.toNat < 2 ^ w.toNat:=by omega
 have lb:b.toNat < 2 ^ w.toNat:=by omega
 refine ⟨?_,?_,?_⟩ <;> rw [ZZ h1 h2,p1]
 ·unfold band
  rw [BitVec.toNat_and,ea,eb]
  have:=Nat.and_lt_two_pow a.toNat lb
  rw [Zk (by omega) (by omega)]; omega
 ·unfold bor
  rw [BitVec.toNat_or,ea,eb]
  have:=Nat.or_lt_two_pow la lb
  rw [Zk (by omega) (by omega)]; omega
 ·unfold bxor
  rw [BitVec.toNat_xor,ea,eb]
  have:=Nat.xor_lt_two_pow la lb
  rw [Zk (by omega) (by omega)]; omega
theorem ZaH {w:Int} (h1:1 ≤ w) (h2:w ≤ 16) (v:Int):wordB w (wordOf w v) = true:=by
 have h:=Ye w v
 obtain ⟨p1,p2,p3⟩:=ZdT h1 h2
 obtain ⟨a1,_,a3,_,_⟩:=Zba h1 h2
 unfold ZY Zm at h
 have e:(decide (w ≥ 1) && decide (w ≤ 16)) = true:=by simp; omega
 simp only [e,Zlx,ZlD,Zly,Zl4,a1,Option.some.injEq] at h
 rw [a3] at h
 rw [← h,ZZ h1 h2,p1]
 unfold band
 rw [BitVec.toNat_and,Zc1 (x:=((2 ^ w.toNat:Nat):Int) - 1) (by omega) (by omega)]
 have:=Nat.and_le_right (n:=(BitVec.ofInt 64 v).toNat) (m:=(((2 ^ w.toNat:Nat):Int) - 1).toNat)
 rw [Zk (by omega) (by omega)]; omega
theorem Zcg {w a:Int} (h:wordB w a = true):ZF w a = some true:=by rw [X0,h]
theorem ZeK (b:Bool):wordB 1 (if b = true then 1 else 0) = true:=by cases b <;> decide
theorem Zlu {op w a r:Int} (h:YR op w a = some r) (ho:op = 1 ∨ op = 2) (ha:wordB w a = true):wordB w r = true:=by
 obtain ⟨h1,h2⟩:=Yg ha
 obtain ⟨a1,_,a3,a4,a5⟩:=Zba h1 h2
 unfold YR at h
 simp only [Zcg ha,Zlx,ZlD,Zly,Zl4,Ye] at h
 have hv:=(ZZ h1 h2 a).1 ha
 rcases ho with rfl | rfl
 ·simp only [Zme, ZlL, a1, Zlx, Option.some.injEq] at h
  rw [a3,Zk (by omega) (by omega)] at h
  rw [ZZ h1 h2]; omega
 ·simp at h
  rw [← h]; exact ZaH h1 h2 _
theorem ZjW {op w a b r:Int} (h:Yv op w a b = some r) (ha:wordB w a = true) (hb:wordB w b = true):(3 ≤ op ∧ op ≤ 13 → wordB w r = true) ∧ (14 ≤ op ∧ op ≤ 16 → wordB 1 r = true):=by
 obtain ⟨h1,h2⟩:=Yg ha
 obtain ⟨a1,_,a3,a4,a5⟩:=Zba h1 h2
 obtain ⟨b1,b2,b3⟩:=Zk1 h1 h2 ha hb
 have hv:=(ZZ h1 h2 a).1 ha
 have hu:=(ZZ h1 h2 b).1 hb
 unfold Yv at h
 simp only [Zcg ha,Zcg hb,Zlx,ZlD,Zly,Zl4,Znj,Ye,(ZeN _).1] at h
 refine ⟨fun ⟨g1,g2⟩=>?_,fun ⟨g1,g2⟩=>?_⟩
 ·have : op = 3 ∨ op = 4 ∨ op = 5 ∨ op = 6 ∨ op = 7 ∨ op = 8 ∨ op = 9 ∨ op = 10 ∨ op = 11 ∨ op = 12 ∨ op = 13 := by omega
  rcases this with rfl | rfl | rfl | rfl | rfl | rfl | rfl | rfl | rfl | rfl | rfl
  ·simp at h; rw [← h]; exact ZaH h1 h2 _
  ·simp at h; rw [← h]; exact ZaH h1 h2 _
  ·simp at h; rw [← h]; exact ZaH h1 h2 _
  ·simp only [show ((6 : Int) == 3) = false from rfl, show ((6 : Int) == 4) = false from rfl, show ((6 : Int) == 5) = false from rfl, Zme, Zly, Zl4, ZlL] at h
   by_cases e:b = 0
   ·subst e
    simp only [Zme,ZlL,a1,Zlx,Option.some.injEq] at h
    rw [a3] at h
    rw [ZZ h1 h2]; omega
   ·have e' : (b == 0) = false := by simpa using e
    unfold quo? at h
    simp only [e',Zly,Zl4,e,Zlx,Option.some.injEq] at h
    have q1:=Int.tdiv_nonneg hv.1 hu.1
    have q2:=Int.tdiv_le_self b hv.1
    rw [Zk (by omega) (by omega)] at h
    rw [ZZ h1 h2]; omega
  ·simp only [show ((7 : Int) == 3) = false from rfl, show ((7 : Int) == 4) = false from rfl, show ((7 : Int) == 5) = false from rfl, show ((7 : Int) == 6) = false from rfl, Zme, Zly, Zl4, ZlL] at h
   by_cases e:b = 0
   ·subst e
    simp at h
    rw [← h]; exact ha
   ·have e' : (b == 0) = false := by simpa using e
    unfold rem? at h
    simp only [e',Zly,Zl4,e,Zlx,Option.some.injEq] at h
    have q1:=Int.tmod_nonneg b hv.1
    have q2:=Int.tmod_lt_of_pos a (show 0 < b by omega)
    rw [ZZ h1 h2]; omega
  ·simp at h; rw [← h]; exact b1
  ·simp at h; rw [← h]; exact b2
  ·simp at h; rw [← h]; exact b3
  ·simp only [show ((11 : Int) == 3) = false from rfl, show ((11 : Int) == 4) = false from rfl, show ((11 : Int) == 5) = false from rfl, show ((11 : Int) == 6) = false from rfl, show ((11 : Int) == 7) = false from rfl, show ((11 : Int) == 8) = false from rfl, show ((11 : Int) == 9) = false from rfl, show ((11 : Int) == 10) = false from rfl, Zme, Zly, Zl4, ZlL] at h
   by_cases e:b ≥ w
   ·simp [e] at h
    rw [← h,ZZ h1 h2]; omega
   ·rw [Zl7 (by simpa using e), ZfY _ hu.1] at h
    simp at h; rw [← h]; exact ZaH h1 h2 _
  ·simp only [show ((12 : Int) == 3) = false from rfl, show ((12 : Int) == 4) = false from rfl, show ((12 : Int) == 5) = false from rfl, show ((12 : Int) == 6) = false from rfl, show ((12 : Int) == 7) = false from rfl, show ((12 : Int) == 8) = false from rfl, show ((12 : Int) == 9) = false from rfl, show ((12 : Int) == 10) = false from rfl, show ((12 : Int) == 11) = false from rfl, Zme, Zly, Zl4, ZlL] at h
   by_cases e:b ≥ w
   ·simp [e] at h
    rw [← h,ZZ h1 h2]; omega
   ·rw [Zl7 (by simpa using e), Zdd _ hu.1] at h
    simp only [Zlx,Option.some.injEq] at h
    have hp:(0:Int) < 2 ^ min b.toNat 64:=ZnE (by omega)
    rw [Zno _ (by omega)] at h
    have q1:=Int.ediv_nonneg hv.1 (show (0:Int) ≤ 2 ^ min b.toNat 64 by omega)
    have q2:=Int.ediv_le_self (2 ^ min b.toNat 64) hv.1
    rw [ZZ h1 h2]; omega
  ·simp only [Zbl, Zlx] at h
   simp only [show ((13:Int) == 3) = false from rfl,show ((13:Int) == 4) = false from rfl,show ((13:Int) == 5) = false from rfl,show ((13:Int) == 6) = false from rfl,show ((13:Int) == 7) = false from rfl,show ((13:Int) == 8) = false from rfl,show ((13:Int) == 9) = false from rfl,show ((13:Int) == 10) = false from rfl,show ((13:Int) == 11) = false from rfl,show ((13:Int) == 12) = false from rfl,Zme,Zly,Zl4,ZlL] at h
   rw [Zmy] at h
   obtain ⟨x,_,h⟩:=h
   simp at h; rw [← h]; exact ZaH h1 h2 _
 ·have : op = 14 ∨ op = 15 ∨ op = 16 := by omega
  rcases this with rfl | rfl | rfl
  ·simp at h; rw [← h]; exact by have:=ZeK (decide (a = b)); simpa using this
  ·simp at h; rw [← h]; exact by have:=ZeK (decide (a < b)); simpa using this
  ·simp [Zbl] at h; rw [← h]; exact by have:=ZeK (decide (signedOf w a < signedOf w b)); simpa using this
theorem Zkj {w a v b r:Int} (h:Xe w a v b = some r) (ha:wordB w a = true) (hb:wordB v b = true) (hs:w + v ≤ 16):wordB (w + v) r = true:=by
 obtain ⟨h1,h2⟩:=Yg ha
 obtain ⟨h3,h4⟩:=Yg hb
 have hv:=(ZZ h1 h2 a).1 ha
 have hu:=(ZZ h3 h4 b).1 hb
 unfold Xe at h
 simp only [Zcg ha,Zcg hb,Zlx,ZlD,Zly,Zl4,Znj,Zmm] at h
 rw [Zk (by omega) (by omega),Zl7 (by simp; omega),ZfY _ (by omega)] at h
 have hm:min v.toNat 64 = v.toNat:=by omega
 rw [hm] at h
 obtain ⟨p1,p2,p3⟩:=ZdT h1 h2
 obtain ⟨q1,q2,q3⟩:=ZdT h3 h4
 obtain ⟨s1,s2,s3⟩:=ZdT (w:=w + v) (by omega) hs
 have hadd:(2:Int) ^ (w + v).toNat = 2 ^ w.toNat * 2 ^ v.toNat:=by
  rw [show (w + v).toNat = w.toNat + v.toNat by omega,Int.pow_add]
 have hbig:(2:Int) ^ (w + v).toNat ≤ 65536:=by rw [s1]; omega
 have hmul:(a + 1) * 2 ^ v.toNat ≤ 2 ^ w.toNat * 2 ^ v.toNat:=Int.mul_le_mul_of_nonneg_right (by omega) (by omega)
 have hnn:0 ≤ a * 2 ^ v.toNat:=Int.mul_nonneg hv.1 (by omega)
 rw [Int.add_mul,Int.one_mul] at hmul
 rw [ZZ (by omega) hs,hadd]
 rw [hadd] at hbig
 rw [Zk (x:=a * 2 ^ v.toNat) (by omega) (by omega)] at h
 simp only [Zlx,Option.some.injEq] at h
 rw [Zk (by omega) (by omega)] at h
 omega
theorem Zlg {w a l n r:Int} (h:XH w a l n = some r) (ha:wordB w a = true) (hl:0 ≤ l) (hn:1 ≤ n) (hs:l + n ≤ w):wordB n r = true:=by
 obtain ⟨h1,h2⟩:=Yg ha
 unfold XH at h
 simp only [Zcg ha,Zlx,Ye] at h
 rw [Zk (by omega) (by omega),Zl7 (by simp; omega),Zdd _ hl] at h
 simp only [Zlx,Option.some.injEq] at h
 rw [← h]; exact ZaH hn (by omega) _
theorem ZjB {w a n r:Int} {s:Bool} (h:Xc w a n s = some r) (ha:wordB w a = true) (hs:w ≤ n) (hn:n ≤ 16):wordB n r = true:=by
 obtain ⟨h1,h2⟩:=Yg ha
 have hv:=(ZZ h1 h2 a).1 ha
 unfold Xc at h
 simp only [Zcg ha,Zlx,Ye,Zbl] at h
 rw [Zl7 (by simp; omega)] at h
 cases s
 ·simp at h
  rw [← h,ZZ (by omega) hn]
  have:(2:Int) ^ n.toNat = 2 ^ w.toNat * 2 ^ (n - w).toNat:=by rw [← Int.pow_add]; congr 1; omega
  have hp:(0:Int) < 2 ^ (n - w).toNat:=ZnE (by omega)
  have hp2:(0:Int) < 2 ^ w.toNat:=ZnE (by omega)
  have:=Int.mul_le_mul_of_nonneg_left (show (1:Int) ≤ 2 ^ (n - w).toNat by omega) (show (0:Int) ≤ 2 ^ w.toNat by omega)
  omega
 ·simp at h
  rw [← h]; exact ZaH (by omega) hn _
theorem Xy {op w m:Int} {nm:Str} {ks:List D.Term} (h:nodeB ⟨op,w,m,nm,ks⟩ = true):(1 ≤ w ∧ w ≤ 16) ∧ (
  (op = 0 ∧ ks = [] ∧ nm = ⟨[]⟩ ∧ wordB w m = true) ∨
  (op = 22 ∧ ks = [] ∧ m = 0) ∨
  ((op = 1 ∨ op = 2) ∧ m = 0 ∧ nm = ⟨[]⟩ ∧ ∃ a,ks = [a] ∧ nodeB a = true ∧ a.W = w) ∨
  (3 ≤ op ∧ op ≤ 16 ∧ m = 0 ∧ nm = ⟨[]⟩ ∧ ∃ a b,ks = [a,b] ∧ nodeB a = true ∧ nodeB b = true ∧ a.W = b.W ∧ (op ≤ 13 → a.W = w) ∧ (14 ≤ op → w = 1)) ∨
  (op = 17 ∧ m = 0 ∧ nm = ⟨[]⟩ ∧ ∃ a b c,ks = [a,b,c] ∧ nodeB a = true ∧ nodeB b = true ∧ nodeB c = true ∧ a.W = 1 ∧ b.W = w ∧ c.W = w) ∨
  (op = 18 ∧ m = 0 ∧ nm = ⟨[]⟩ ∧ ∃ a b,ks = [a,b] ∧ nodeB a = true ∧ nodeB b = true ∧ a.W + b.W = w) ∨
  (op = 19 ∧ nm = ⟨[]⟩ ∧ 0 ≤ m ∧ m ≤ 16 ∧ ∃ a,ks = [a] ∧ nodeB a = true ∧ m + w ≤ a.W) ∨
  ((op = 20 ∨ op = 21) ∧ m = 0 ∧ nm = ⟨[]⟩ ∧ ∃ a,ks = [a] ∧ nodeB a = true ∧ a.W ≤ w)):=by
 rw [Xi,Zl0] at h
 obtain ⟨h,hk⟩:=h
 unfold locB at h
 simp only [Zl0,ZlB,Zmj,ZlW,Zck] at h
 obtain ⟨⟨⟨hw,hn⟩,hm⟩,h⟩:=h
 refine ⟨hw,?_⟩
 simp only at hk
 unfold shB at h
 by_cases o0:op = 0
 ·rw [Zl6 o0] at h
  simp only [Zl0,Znk,ZmW] at h
  exact .inl ⟨o0,h.1,by rcases hn with hn | hn; exact hn; omega,h.2⟩
 rw [Zl7 o0] at h
 by_cases o1:op = 22
 ·rw [Zl6 o1] at h
  simp only [Zl0,Znk,ZmW] at h
  exact .inr (.inl ⟨o1,h.1,by omega⟩)
 rw [Zl7 o1] at h
 have hn:nm = ⟨[]⟩:=by rcases hn with hn | hn; exact hn; exact absurd hn o1
 have hm:op ≠ 19 → m = 0:=fun o=>by omega
 clear o0 o1
 have k1:∀ f:Int → Bool,(match ks.map (·.W) with | [a]=>f a | _=>false) = true → ∃ a,ks = [a] ∧ nodeB a = true ∧ f a.W = true:=fun f h=>by
  rcases ks with _ | ⟨a,_ | ⟨b,l⟩⟩ <;> simp at h
  rw [ZL] at hk; simp at hk
  exact ⟨a,rfl,hk,h⟩
 have k2:∀ f:Int → Int → Bool,(match ks.map (·.W) with | [a,b]=>f a b | _=>false) = true → ∃ a b,ks = [a,b] ∧ nodeB a = true ∧ nodeB b = true ∧ f a.W b.W = true:=fun f h=>by
  rcases ks with _ | ⟨a,_ | ⟨b,_ | ⟨c,l⟩⟩⟩ <;> simp at h
  rw [ZL] at hk; simp at hk
  exact ⟨a,b,rfl,hk.1,hk.2,h⟩
 have k3:∀ f:Int → Int → Int → Bool,(match ks.map (·.W) with | [a,b,c]=>f a b c | _=>false) = true → ∃ a b c,ks = [a,b,c] ∧ nodeB a = true ∧ nodeB b = true ∧ nodeB c = true ∧ f a.W b.W c.W = true:=fun f h=>by
  rcases ks with _ | ⟨a,_ | ⟨b,_ | ⟨c,_ | ⟨d,l⟩⟩⟩⟩ <;> simp at h
  rw [ZL] at hk; simp at hk
  exact ⟨a,b,c,rfl,hk.1,hk.2.1,hk.2.2,h⟩
 by_cases o2:1 ≤ op ∧ op ≤ 2
 ·rw [Zl6 o2] at h
  obtain ⟨a,ha,hb,hf⟩:=k1 (fun a=>a == w) h
  exact .inr (.inr (.inl ⟨by omega,hm (by omega),hn,a,ha,hb,by simpa using hf⟩))
 rw [Zl7 o2] at h
 by_cases o3:3 ≤ op ∧ op ≤ 13
 ·rw [Zl6 o3] at h
  obtain ⟨a,b,ha,hb,hc,hf⟩:=k2 (fun a b=>a == w && b == w) h
  simp only [Zl0,ZlW] at hf
  exact .inr (.inr (.inr (.inl ⟨by omega,by omega,hm (by omega),hn,a,b,ha,hb,hc,by omega,by omega,by omega⟩)))
 rw [Zl7 o3] at h
 by_cases o4:14 ≤ op ∧ op ≤ 16
 ·rw [Zl6 o4] at h
  obtain ⟨a,b,ha,hb,hc,hf⟩:=k2 (fun a b=>a == b && w == 1) h
  simp only [Zl0,ZlW] at hf
  exact .inr (.inr (.inr (.inl ⟨by omega,by omega,hm (by omega),hn,a,b,ha,hb,hc,hf.1,by omega,by omega⟩)))
 rw [Zl7 o4] at h
 by_cases o5:op = 17
 ·rw [Zl6 o5] at h
  obtain ⟨a,b,c,ha,hb,hc,hd,hf⟩:=k3 (fun a b c=>a == 1 && b == w && c == w) h
  simp only [Zl0,ZlW] at hf
  exact .inr (.inr (.inr (.inr (.inl ⟨o5,hm (by omega),hn,a,b,c,ha,hb,hc,hd,hf.1.1,hf.1.2,hf.2⟩))))
 rw [Zl7 o5] at h
 by_cases o6:op = 18
 ·rw [Zl6 o6] at h
  obtain ⟨a,b,ha,hb,hc,hf⟩:=k2 (fun a b=>a + b == w) h
  exact .inr (.inr (.inr (.inr (.inr (.inl ⟨o6,hm (by omega),hn,a,b,ha,hb,hc,by simpa using hf⟩)))))
 rw [Zl7 o6] at h
 by_cases o7:op = 19
 ·rw [Zl6 o7] at h
  obtain ⟨a,ha,hb,hf⟩:=k1 (fun a=>decide (0 ≤ m ∧ m ≤ 16) && decide (m + w ≤ a)) h
  simp only [Zl0,ZlB] at hf
  exact .inr (.inr (.inr (.inr (.inr (.inr (.inl ⟨o7,hn,hf.1.1,hf.1.2,a,ha,hb,hf.2⟩))))))
 rw [Zl7 o7] at h
 by_cases o8:20 ≤ op ∧ op ≤ 21
 ·rw [Zl6 o8] at h
  obtain ⟨a,ha,hb,hf⟩:=k1 (fun a=>decide (a ≤ w)) h
  exact .inr (.inr (.inr (.inr (.inr (.inr (.inr ⟨by omega,hm (by omega),hn,a,ha,hb,by simpa using hf⟩))))))
 rw [Zl7 o8] at h; cases h
theorem Zbk {w v:Int} (h:wordB w v = true):nodeB ⟨0,w,v,⟨[]⟩,[]⟩ = true:=by
 obtain ⟨h1,h2⟩:=Yg h
 rw [Xi,ZL]; simp [locB,shB,Zag,h,h1,h2]
theorem Zlp {op:Int} {a:D.Term} (ho:op = 1 ∨ op = 2) (ha:nodeB a = true):nodeB ⟨op,a.W,0,⟨[]⟩,[a]⟩ = true:=by
 have h1:=YB ha
 rw [Xi,ZL]; rcases ho with rfl | rfl <;> simp [locB,shB,Zag,ha,h1.1,h1.2]
theorem ZdL {op w:Int} {a b:D.Term} (h3:3 ≤ op) (h16:op ≤ 16) (ha:nodeB a = true) (hb:nodeB b = true) (hw:a.W = b.W) (h1:op ≤ 13 → a.W = w) (h2:14 ≤ op → w = 1):nodeB ⟨op,w,0,⟨[]⟩,[a,b]⟩ = true:=by
 have g1:=YB ha
 have g2:1 ≤ w ∧ w ≤ 16:=by omega
 rw [Xi,ZL]
 by_cases o:op ≤ 13
 ·have e1 := h1 o
  simp [locB,shB,Zag,ha,hb,g2.1,g2.2,e1,hw ▸ e1,show ¬ op = 0 by omega,show ¬ op = 22 by omega,show ¬ op ≤ 2 by omega,h3,o]
 ·have e1 := h2 (by omega)
  simp [locB,shB,Zag,ha,hb,e1,hw,show ¬ op = 0 by omega,show ¬ op = 22 by omega,show ¬ op ≤ 2 by omega,o,show 14 ≤ op by omega,h16]
theorem ZkO {w:Int} {a b c:D.Term} (ha:nodeB a = true) (hb:nodeB b = true) (hc:nodeB c = true) (h1:a.W = 1) (h2:b.W = w) (h3:c.W = w):nodeB ⟨17,w,0,⟨[]⟩,[a,b,c]⟩ = true:=by
 have g2:=YB hb
 rw [h2] at g2
 rw [Xi,ZL]; simp [locB,shB,Zag,ha,hb,hc,h1,h2,h3,g2.1,g2.2]
theorem Zc4 {w m:Int} {a:D.Term} (ha:nodeB a = true) (h0:0 ≤ m) (h1:1 ≤ w) (h2:m + w ≤ a.W):nodeB ⟨19,w,m,⟨[]⟩,[a]⟩ = true:=by
 have g:=YB ha
 rw [Xi,ZL]; simp [locB,shB,Zag,ha,h0,h1,h2,show w ≤ 16 by omega,show m ≤ 16 by omega]
theorem ZjG {op w:Int} {a:D.Term} (ho:op = 20 ∨ op = 21) (ha:nodeB a = true) (h1:w ≤ 16) (h2:a.W ≤ w):nodeB ⟨op,w,0,⟨[]⟩,[a]⟩ = true:=by
 have g:=YB ha
 rw [Xi,ZL]; rcases ho with rfl | rfl <;> simp [locB,shB,Zag,ha,h1,h2,show 1 ≤ w by omega]
theorem Xr {a:D.Term} (h:nodeB a = true) (ho:a.Op = 0):a = ⟨0,a.W,a.N,⟨[]⟩,[]⟩ ∧ wordB a.W a.N = true:=by
 obtain ⟨op,w,m,nm,ks⟩:=a
 simp only at ho ⊢
 subst ho
 obtain ⟨_,hs⟩:=Xy h
 rcases hs with ⟨_,rfl,rfl,hv⟩ | hs | hs | hs | hs | hs | hs | hs
 ·exact ⟨rfl,hv⟩
 all_goals (exfalso; have:=hs.1; omega)
theorem names:∀ n:Nat,(∀ t:D.Term,msz t < n → nodeB t = true → msz t ≤ 11 * cnt t) ∧ ∀ l:List D.Term,l.length + mszs l < n → nodesB l = true → mszs l ≤ 11 * cnts l:=by
 intro n
 induction n with
 | zero=>exact ⟨fun _ h=>by omega,fun _ h=>by omega⟩
 | succ n ih=>
  have hl:∀ l:List D.Term,l.length + mszs l < n + 1 → nodesB l = true → mszs l ≤ 11 * cnts l:=by
   intro l h hb
   cases l with
   | nil=>rw [Zca]; omega
   | cons x l=>
    rw [XQ] at h ⊢
    rw [X6]
    rw [nodesB,Zl0] at hb
    simp only [ZlO] at h
    have h1:=ih.1 x (by omega) hb.1
    have h2:=ih.2 l (by omega) hb.2
    omega
  refine ⟨fun t h hb=>?_,hl⟩
  have hz:=XI t
  have hc:=XC t
  have hb':=hb
  rw [Xi,Zl0] at hb'
  have h2:=hl t.Kids (by omega) hb'.2
  have h3:t.Name.bytes.length ≤ 8 ∧ t.Kids.length ≤ 3:=by
   have hk:=hb'.1
   unfold locB at hk
   simp only [Zl0,Zmj,ZlW,Zck,ZlB] at hk
   obtain ⟨⟨⟨_,hn⟩,_⟩,hs⟩:=hk
   refine ⟨?_,?_⟩
   ·rcases hn with hn | hn
    ·rw [hn]; simp
    ·unfold shB at hs
     rw [Zl7 (by omega),Zl6 hn,Zl0] at hs
     have:=hs.2
     unfold nameB at this
     simp only [Zl0,ZlB] at this
     omega
   ·have := Zic hb'.1
    rcases this with ⟨_,e⟩ | ⟨_,e⟩ | ⟨_,a,e,_⟩ | ⟨_,_,a,b,e,_⟩ | ⟨_,a,b,c,e⟩ | ⟨_,a,b,e⟩ | ⟨_,_,_,a,e⟩ | ⟨_,a,e⟩ <;> rw [e] <;> simp
  omega
theorem ZbG {t:D.Term} (h:nodeB t = true):msz t ≤ 11 * cnt t:=(names (msz t + 1)).1 t (by omega) h
theorem Zl (w v:Int):YV w v = some ⟨0,w,v,⟨[]⟩,[]⟩:=rfl
theorem Y5 {w v:Int} (h:wordB w v = true):Yh w v = some ⟨0,w,v,⟨[]⟩,[]⟩:=by unfold Yh; rw [Zau,h]; rfl
theorem ZeL {ks:List D.Term} {n:Nat} (hn:ks.length < n) (hk:ks.length ≤ 1000):iterN (fun (s1:Bool × Int)=>
   if (decide (s1.2 < (len ks))) then
    (if s1.1 then (get? ks s1.2) else some default).bind fun x1=>
    (if s1.1 then (Zd x1) else some default).bind fun x2=>
    some (.inl ((s1.1 && x2),(w64 (s1.2 + 1))))
   else
    some (.inr (s1.1))) n (true,0) = some (ks.all fun x=>x.Op == 0):=by
 obtain ⟨r,g1,g2⟩:=ZN (l:=ks) (n:=n) (σ:=Bool) (ρ:=Bool) (B:=fun (s1:Bool × Int)=>
   if (decide (s1.2 < (len ks))) then
    (if s1.1 then (get? ks s1.2) else some default).bind fun x1=>
    (if s1.1 then (Zd x1) else some default).bind fun x2=>
    some (.inl ((s1.1 && x2),(w64 (s1.2 + 1))))
   else
    some (.inr (s1.1))) (fun k a=>(a,(k:Int))) (fun ys a=>(a && ys.all fun x=>x.Op == 0) = ks.all fun x=>x.Op == 0) (fun r=>r = ks.all fun x=>x.Op == 0)
  (fun k x xs a hk' hx hlen hi => by
   have hd:decide ((k:Int) < len ks) = true:=by rw [Zg]; simp; omega
   rw [Znc] at hi
   refine .inl ⟨a && x.Op == 0,?_,by rw [← hi,Bool.and_assoc]⟩
   simp only [hd,ZlL]
   cases a
   ·simp only [Zly, Zl4, Zlx, Zmt]
    rw [Zk (by omega) (by omega)]; rfl
   ·simp only [ZlL, get?_nat, hx, Zlx, Zd, ZlV]
    rw [Zk (by omega) (by omega)]; rfl)
  (fun a hi => by
   have hd:decide ((ks.length:Int) < len ks) = false:=by rw [Zg]; simp
   simp only [hd,Zly,Zl4]
   exact ⟨_,rfl,by simpa using hi⟩) (a:=true) rfl hn
 rw [show ((0:Nat):Int) = 0 from rfl] at g1
 rw [g1,g2]
theorem ZeO {ks:List D.Term} {n:Nat} {b:Bool} (hn:ks.length < n) (hk:ks.length ≤ 1000):iterN (fun (s1:Bool × Int × (List Int))=>
  if (decide (s1.2.1 < (len ks))) then
   (get? ks s1.2.1).bind fun x1=>
   (app? s1.2.2 ([x1.N]:List Int)).bind fun x2=>
   some (.inl ((s1.1 && (x1.Op == 0)),(w64 (s1.2.1 + 1)),x2))
  else
   some (.inr (s1.1,s1.2.2))) n (b,0,([]:List Int)) = some ((b && ks.all fun x=>x.Op == 0),ks.map (·.N)):=by
 obtain ⟨r,g1,g2⟩:=ZN (l:=ks) (n:=n) (σ:=Bool × List Int) (ρ:=Bool × List Int) (B:=fun (s1:Bool × Int × (List Int))=>
  if (decide (s1.2.1 < (len ks))) then
   (get? ks s1.2.1).bind fun x1=>
   (app? s1.2.2 ([x1.N]:List Int)).bind fun x2=>
   some (.inl ((s1.1 && (x1.Op == 0)),(w64 (s1.2.1 + 1)),x2))
  else
   some (.inr (s1.1,s1.2.2))) (fun k a=>(a.1,(k:Int),a.2)) (fun ys a=>(a.1 && ys.all fun x=>x.Op == 0) = (b && ks.all fun x=>x.Op == 0) ∧ a.2 ++ ys.map (·.N) = ks.map (·.N)) (fun r=>r = ((b && ks.all fun x=>x.Op == 0),ks.map (·.N)))
  (fun k x xs a hk' hx hlen ⟨hi, hj⟩ => by
   have hd:decide ((k:Int) < len ks) = true:=by rw [Zg]; simp; omega
   rw [Znc] at hi
   have hl:a.2.length ≤ 1000:=by
    have:=congrArg List.length hj
    simp at this; omega
   refine .inl ⟨(a.1 && x.Op == 0,a.2 ++ [x.N]),?_,by rw [← hi,Bool.and_assoc],by rw [← hj]; simp⟩
   simp only [hd,ZlL,get?_nat,hx,Zlx]
   rw [YS (by simp; omega),Zk (by omega) (by omega)]; rfl)
  (fun a ⟨hi, hj⟩ => by
   have hd:decide ((ks.length:Int) < len ks) = false:=by rw [Zg]; simp
   simp only [hd,Zly,Zl4]
   refine ⟨_,rfl,?_⟩
   rw [← hi,← hj]; simp) (a:=(b,[])) ⟨rfl,rfl⟩ hn
 rw [show ((0:Nat):Int) = 0 from rfl] at g1
 rw [g1,g2]
theorem Zaw (n:Nat) (w v:Int) (e:Option (List (Str × Int))):Zy (n + 1) ⟨0,w,v,⟨[]⟩,[]⟩ e = some v:=by simp [Zy]
theorem known {op w m:Int} {nm:Str} {ks:List D.Term} (h:nodeB ⟨op,w,m,nm,ks⟩ = true) (hne:ks ≠ []) (hc:(ks.all fun x=>x.Op == 0) = true) :
  ∃ v,wordB w v = true ∧ Y1 ⟨op,w,m,nm,ks⟩ (ks.map (·.N)) = some v ∧ ∀ n,2 ≤ n → Zy n ⟨op,w,m,nm,ks⟩ none = some v:=by
 obtain ⟨⟨w1,w2⟩,h⟩:=Xy h
 rcases h with ⟨_,h,_⟩ | ⟨_,h,_⟩ | ⟨ho,rfl,rfl,a,rfl,ha,rfl⟩ | ⟨o3,o16,rfl,rfl,a,b,rfl,ha,hb,hab,e1,e2⟩ | ⟨rfl,rfl,rfl,a,b,c,rfl,ha,hb,hcc,aw,bw,cw⟩ | ⟨rfl,rfl,rfl,a,b,rfl,ha,hb,hab⟩ | ⟨rfl,rfl,m0,m16,a,rfl,ha,haw⟩ | ⟨ho,rfl,rfl,a,rfl,ha,haw⟩
 ·exact absurd h hne
 ·exact absurd h hne
 ·simp at hc
  obtain ⟨ea,va⟩:=Xr ha hc
  obtain ⟨r,s1,s2⟩:=Zfg op a.W a.N
  refine ⟨r,Zlu s1 ho va,?_,fun n hn=>?_⟩
  ·unfold Y1
   rw [Zj,show decide (1 ≤ op ∧ op ≤ 2) = true by simp; omega]
   simp [geti0,s1]
  ·obtain ⟨n, rfl⟩ : ∃ k, n = k + 2 := ⟨n - 2, by omega⟩
   have e3:Zy (n + 1) a none = some a.N:=by rw [ea]; exact Zaw n _ _ _
   rw [show n + 2 = (n + 1) + 1 from rfl]
   unfold Zy
   rcases ho with rfl | rfl <;> simp [get0,e3,s2]
 ·simp at hc
  obtain ⟨ea,va⟩:=Xr ha hc.1
  obtain ⟨eb,vb⟩:=Xr hb hc.2
  obtain ⟨r,s1,s2⟩:=ZcA op a.W a.N b.N
  have hr:=ZjW s1 va (hab ▸ vb)
  refine ⟨r,?_,?_,fun n hn=>?_⟩
  ·by_cases o : op ≤ 13
   ·rw [← e1 o]; exact hr.1 ⟨o3,o⟩
   ·rw [e2 (by omega)]; exact hr.2 ⟨by omega,o16⟩
  ·unfold Y1
   rw [Zj,show decide (1 ≤ op ∧ op ≤ 2) = false by simp; omega,Zj,show decide (3 ≤ op ∧ op ≤ 16) = true by simp; omega]
   simp [get0,geti0,geti1,s1]
  ·obtain ⟨n, rfl⟩ : ∃ k, n = k + 2 := ⟨n - 2, by omega⟩
   have e3:Zy (n + 1) a none = some a.N:=by rw [ea]; exact Zaw n _ _ _
   have e4:Zy (n + 1) b none = some b.N:=by rw [eb]; exact Zaw n _ _ _
   rw [show n + 2 = (n + 1) + 1 from rfl]
   unfold Zy
   simp [get0,get1,e3,e4,s2,show ¬ op = 0 by omega,show ¬ op = 22 by omega,show ¬ op = 17 by omega,show ¬ op = 1 by omega,show ¬ op = 2 by omega,show ¬ op = 19 by omega,show ¬ op = 20 by omega,show ¬ op = 21 by omega,show ¬ op = 18 by omega]
 ·simp at hc
  obtain ⟨ea,va⟩:=Xr ha hc.1
  obtain ⟨eb,vb⟩:=Xr hb hc.2.1
  obtain ⟨ec,vc⟩:=Xr hcc hc.2.2
  refine ⟨if a.N = 1 then b.N else c.N,?_,?_,fun n hn=>?_⟩
  ·split
   ·rw [← bw]; exact vb
   ·rw [← cw]; exact vc
  ·unfold Y1
   rw [Zj,Zj]
   by_cases e:a.N = 1 <;> simp [geti0,geti1,geti2,e]
  ·obtain ⟨n, rfl⟩ : ∃ k, n = k + 2 := ⟨n - 2, by omega⟩
   have e3:Zy (n + 1) a none = some a.N:=by rw [ea]; exact Zaw n _ _ _
   have e4:Zy (n + 1) b none = some b.N:=by rw [eb]; exact Zaw n _ _ _
   have e5:Zy (n + 1) c none = some c.N:=by rw [ec]; exact Zaw n _ _ _
   rw [show n + 2 = (n + 1) + 1 from rfl]
   unfold Zy
   by_cases e:a.N = 1 <;> simp [get0,get1,get2',e3,e4,e5,e]
 ·simp at hc
  obtain ⟨ea,va⟩:=Xr ha hc.1
  obtain ⟨eb,vb⟩:=Xr hb hc.2
  obtain ⟨r,s1,s2⟩:=ZfT a.W a.N b.W b.N
  refine ⟨r,by rw [← hab]; exact Zkj s1 va vb (by omega),?_,fun n hn=>?_⟩
  ·unfold Y1
   rw [Zj,Zj]
   simp [get0,get1,geti0,geti1,s1]
  ·obtain ⟨n, rfl⟩ : ∃ k, n = k + 2 := ⟨n - 2, by omega⟩
   have e3:Zy (n + 1) a none = some a.N:=by rw [ea]; exact Zaw n _ _ _
   have e4:Zy (n + 1) b none = some b.N:=by rw [eb]; exact Zaw n _ _ _
   rw [show n + 2 = (n + 1) + 1 from rfl]
   unfold Zy
   simp [get0,get1,e3,e4,s2]
 ·simp at hc
  obtain ⟨ea,va⟩:=Xr ha hc
  obtain ⟨r,s1,s2⟩:=Zhf (w:=a.W) (a:=a.N) (l:=m) (n:=w) (by omega) (by omega)
  refine ⟨r,Zlg s1 va m0 w1 haw,?_,fun n hn=>?_⟩
  ·unfold Y1
   rw [Zj,Zj]
   simp [get0,geti0,s1]
  ·obtain ⟨n, rfl⟩ : ∃ k, n = k + 2 := ⟨n - 2, by omega⟩
   have e3:Zy (n + 1) a none = some a.N:=by rw [ea]; exact Zaw n _ _ _
   rw [show n + 2 = (n + 1) + 1 from rfl]
   unfold Zy
   simp [get0,e3,s2]
 ·simp at hc
  obtain ⟨ea,va⟩:=Xr ha hc
  obtain ⟨r,s1,s2⟩:=ZfR a.W a.N w (op == 21)
  refine ⟨r,ZjB s1 va haw w2,?_,fun n hn=>?_⟩
  ·unfold Y1
   rw [Zj,show decide (1 ≤ op ∧ op ≤ 2) = false by simp; omega,Zj,show decide (3 ≤ op ∧ op ≤ 16) = false by simp; omega]
   rcases ho with rfl | rfl <;> simp at s1 <;> simp [get0,geti0,s1]
  ·obtain ⟨n, rfl⟩ : ∃ k, n = k + 2 := ⟨n - 2, by omega⟩
   have e3:Zy (n + 1) a none = some a.N:=by rw [ea]; exact Zaw n _ _ _
   rw [show n + 2 = (n + 1) + 1 from rfl]
   unfold Zy
   rcases ho with rfl | rfl <;> simp at s2 <;> simp [get0,e3,s2]
def runS (f:Nat → D.Term → Option D.Term) (k:Nat):D.Term ⊕ D.Term → Option D.Term
 | .inl r=>some r
 | .inr t=>f k t
def swp (t:D.Term):Nat:=match t.Kids with
 | [a,b]=>if 0 < ctm a b then 1 else 0
 | _=>0
def mea (t:D.Term):Nat:=2 * cnt t + swp t
theorem Zkb (t:D.Term):swp t ≤ 1:=by
 unfold swp
 split
 ·split <;> omega
 ·omega
def Good (t:D.Term):D.Term ⊕ D.Term → Prop
 | .inl r=>nodeB r = true ∧ r.W = t.W ∧ cnt r ≤ cnt t
 | .inr u=>nodeB u = true ∧ u.W = t.W ∧ cnt u ≤ cnt t ∧ mea u < mea t
theorem X4 {t u:D.Term} (h:nodeB u = true) (hw:u.W = t.W) (hc:cnt u < cnt t):Good t (.inr u):=by
 have:=Zkb u
 exact ⟨h,hw,by omega,by unfold mea; omega⟩
def Stp (t:D.Term):Prop:=∃ s,Good t s ∧ (∀ k,1100000 ≤ k → ∃ k',k ≤ k' ∧ ZI (k + 8) t = runS ZI k' s) ∧ (∀ k,1100000 ≤ k → ∃ k',k ≤ k' ∧ Z4 (k + 8) t = runS Z4 k' s)
theorem Stp.fin {t r:D.Term} (h:nodeB r = true) (hw:r.W = t.W) (hc:cnt r ≤ cnt t) (h1:∀ k,1100000 ≤ k → ZI (k + 8) t = some r) (h2:∀ k,1100000 ≤ k → Z4 (k + 8) t = some r):Stp t:=
 ⟨.inl r,⟨h,hw,hc⟩,fun k hk=>⟨k,Zl3 _,h1 k hk⟩,fun k hk=>⟨k,Zl3 _,h2 k hk⟩⟩
theorem Stp.go {t u:D.Term} (i j:Nat) (h:Good t (.inr u)) (h1:∀ k,1100000 ≤ k → ZI (k + 8) t = ZI (k + i) u) (h2:∀ k,1100000 ≤ k → Z4 (k + 8) t = Z4 (k + j) u):Stp t:=
 ⟨.inr u,h,fun k hk=>⟨k + i,by omega,h1 k hk⟩,fun k hk=>⟨k + j,by omega,h2 k hk⟩⟩
theorem Zf {α:Type} (x:Option α):(x.bind fun y=>some y) = x:=by cases x <;> rfl
theorem Yk {k:Nat} {op w m:Int} {nm:Str} {ks:List D.Term} (hk:ks ≠ []) (hl:ks.length ≤ 3) (hc:(ks.all fun x=>x.Op == 0) = false):ZI (k + 8) ⟨op,w,m,nm,ks⟩ =
   if ((op == 1) || (op == 2)) then
    Xa ⟨op,w,m,nm,ks⟩
   else
    if (op == 17) then
     ZW (k + 7) ⟨op,w,m,nm,ks⟩
    else
     if (op == 19) then
      ZM (k + 7) ⟨op,w,m,nm,ks⟩
     else
      if ((op == 20) || (op == 21)) then
       Yx (k + 7) ⟨op,w,m,nm,ks⟩
      else
       if (op == 18) then
        Yp (k + 7) ⟨op,w,m,nm,ks⟩
       else
        Zb (k + 7) ⟨op,w,m,nm,ks⟩:=by
 rw [show k + 8 = (k + 7) + 1 from rfl,ZI]
 simp only [Zf]
 rw [Zl7 (by rw [Zg]; simpa using hk),ZeL (by omega) (by omega),hc]
 simp only [Zlx,Zly,Zl4]
theorem Yd {k:Nat} {op w m:Int} {nm:Str} {ks:List D.Term} (hl:ks.length ≤ 3) (hc:(decide (len ks > 0) && ks.all fun x=>x.Op == 0) = false):Z4 (k + 8) ⟨op,w,m,nm,ks⟩ =
  if decide (3 ≤ op ∧ op ≤ 16) then
   Zh (k + 7) ⟨op,w,m,nm,ks⟩
  else
   if ((op == 1) || (op == 2)) then
    (get? ks 0).bind fun x7=>
    if (x7.Op == op) then
     (get? ks 0).bind fun x8=>
     get? x8.Kids 0
    else
     some ⟨op,w,m,nm,ks⟩
   else
    if (op == 17) then
     YD (k + 7) ⟨op,w,m,nm,ks⟩
    else
     if (op == 19) then
      Yu (k + 7) ⟨op,w,m,nm,ks⟩
     else
      if ((op == 20) || (op == 21)) then
       (get? ks 0).bind fun x12=>
       if (x12.W == w) then
        some x12
       else
        if (x12.Op == op) then
         Z4 (k + 7) (D.Term.mk op w 0 ⟨[]⟩ x12.Kids)
        else
         some ⟨op,w,m,nm,ks⟩
      else
       if (op == 18) then
        (get? ks 0).bind fun x14=>
        (get? ks 1).bind fun x15=>
        (if ((x14.Op == 19) && (x15.Op == 19)) then (get? x14.Kids 0) else some default).bind fun x16=>
        (if ((x14.Op == 19) && (x15.Op == 19)) then (get? x15.Kids 0) else some default).bind fun x17=>
        (if ((x14.Op == 19) && (x15.Op == 19)) then (Yb (k + 7) x16 x17) else some default).bind fun x18=>
        if ((((x14.Op == 19) && (x15.Op == 19)) && x18) && (x14.N == (w64 (x15.N + x15.W)))) then
         Z4 (k + 7) (D.Term.mk 19 w x15.N ⟨[]⟩ x15.Kids)
        else
         some ⟨op,w,m,nm,ks⟩
       else
        some ⟨op,w,m,nm,ks⟩:=by
 rw [show k + 8 = (k + 7) + 1 from rfl,Z4]
 simp only [Zf,Zj]
 rw [ZeO (by omega) (by omega),hc]
 simp only [Zlx,Zly,Zl4]
theorem Zfp {op w m:Int} {nm:Str} (h:nodeB ⟨op,w,m,nm,[]⟩ = true) (ho:op = 0 ∨ op = 22):Stp ⟨op,w,m,nm,[]⟩:=by
 refine .fin h rfl (Zl3 _) (fun k hk=>?_) (fun k hk=>?_)
 ·rw [show k + 8 = (k + 7) + 1 from rfl,ZI,Zl6 (by rfl)]
 ·rw [Yd (by simp) (by rfl)]
  rcases ho with rfl | rfl <;> simp
theorem ZgY {op w m:Int} {nm:Str} {ks:List D.Term} (h:nodeB ⟨op,w,m,nm,ks⟩ = true) (hne:ks ≠ []) (hl:ks.length ≤ 3) (hc:(ks.all fun x=>x.Op == 0) = true):Stp ⟨op,w,m,nm,ks⟩:=by
 obtain ⟨v,hv,h1,h2⟩:=known h hne hc
 refine .fin (Zbk hv) rfl (by rw [XC,XC]; simp only [Za1]; omega) (fun k hk=>?_) (fun k hk=>?_)
 ·rw [show k + 8 = (k + 7) + 1 from rfl, ZI]
  rw [Zl7 (by rw [Zg]; simpa using hne),ZeL (ks:=ks) (n:=k + 7) (by omega) (by omega),hc]
  simp only [Zlx,ZlL,h2 (k + 7) (by omega),Y5 hv]
 ·rw [show k + 8 = (k + 7) + 1 from rfl, Z4]
  have hd:decide (len ks > 0) = true:=by
   rw [Zg]; simp only [ZlB]
   rcases ks with _ | ⟨x,l⟩
   ·exact absurd rfl hne
   ·simp
  rw [ZeO (ks:=ks) (n:=k + 7) (by omega) (by omega),hc,hd]
  simp only [Zlx,ZmR,ZlL,h1,Zl]
theorem cnt1 (op w m:Int) (nm:Str) (a:D.Term):cnt ⟨op,w,m,nm,[a]⟩ = 1 + cnt a:=by rw [XC]; simp only [X6,Za1]; omega
theorem cnt2 (op w m:Int) (nm:Str) (a b:D.Term):cnt ⟨op,w,m,nm,[a,b]⟩ = 1 + cnt a + cnt b:=by rw [XC]; simp only [X6,Za1]; omega
theorem cnt3 (op w m:Int) (nm:Str) (a b c:D.Term):cnt ⟨op,w,m,nm,[a,b,c]⟩ = 1 + cnt a + cnt b + cnt c:=by rw [XC]; simp only [X6,Za1]; omega
theorem cnt0 (w v:Int):cnt ⟨0,w,v,⟨[]⟩,[]⟩ = 1:=by rw [XC]; simp only [Za1]
theorem ZbL (t:D.Term):1 ≤ cnt t:=by rw [XC]; omega
theorem Zgd {op w:Int} {a:D.Term} (ho:op = 1 ∨ op = 2) (ha:nodeB a = true) (hw:a.W = w):nodeB ⟨op,w,0,⟨[]⟩,[a]⟩ = true:=hw ▸ Zlp ho ha
theorem Zkx {op w:Int} {a:D.Term} (ho:op = 1 ∨ op = 2) (ha:nodeB a = true) (hw:a.W = w) (hc:(a.Op == 0) = false):Stp ⟨op,w,0,⟨[]⟩,[a]⟩:=by
 have ho':((op == 1) || (op == 2)) = true:=by simpa using ho
 have hn:decide (3 ≤ op ∧ op ≤ 16) = false:=by simp; omega
 by_cases e:a.Op = op
 ·obtain ⟨aop, aw, am, anm, aks⟩ := a
  simp only at e hw hc
  subst e hw
  obtain ⟨_,hs⟩:=Xy ha
  obtain ⟨c,rfl,hcc,hcw⟩ : ∃ c,aks = [c] ∧ nodeB c = true ∧ c.W = aw:=by
   rcases hs with h | h | ⟨_,_,_,c,h,h2,h3⟩ | h | h | h | h | h
   ·exfalso; have:=h.1; omega
   ·exfalso; have:=h.1; omega
   ·exact ⟨c,h,h2,h3⟩
   all_goals (exfalso; have:=h.1; omega)
  refine .fin hcc hcw (by rw [cnt1,cnt1]; omega) (fun k hk=>?_) (fun k hk=>?_)
  ·rw [Yk (by simp) (by simp) (by simp [hc]), Zl6 ho']
   simp [Xa,get0]
  ·rw [Yd (by simp) (by simp [hc]), hn, ho']
   simp [get0]
 ·have e' : (a.Op == op) = false := by simpa using e
  refine .fin (Zgd ho ha hw) rfl (Zl3 _) (fun k hk=>?_) (fun k hk=>?_)
  ·rw [Yk (by simp) (by simp) (by simp [hc]), Zl6 ho']
   simp [Xa,get0,e]
  ·rw [Yd (by simp) (by simp [hc]), hn, ho']
   simp [get0,e]
theorem ZfK {a:D.Term} (h:nodeB a = true) (ho:a.Op = 19):∃ c,a = ⟨19,a.W,a.N,⟨[]⟩,[c]⟩ ∧ nodeB c = true ∧ 0 ≤ a.N ∧ a.N ≤ 16 ∧ a.N + a.W ≤ c.W:=by
 obtain ⟨aop,aw,am,anm,aks⟩:=a
 simp only at ho
 subst ho
 obtain ⟨_,hs⟩:=Xy h
 rcases hs with h | h | h | h | h | h | ⟨_,rfl,h0,h1,c,rfl,h2,h3⟩ | h
 ·exfalso; have:=h.1; omega
 ·exfalso; have:=h.1; omega
 ·exfalso; have:=h.1; omega
 ·exfalso; have:=h.2.1; omega
 ·exfalso; have:=h.1; omega
 ·exfalso; have:=h.1; omega
 ·exact ⟨c,rfl,h2,h0,h1,h3⟩
 ·exfalso; have:=h.1; omega
theorem ZhL {a:D.Term} {op:Int} (h:nodeB a = true) (ho:a.Op = op) (hop:op = 20 ∨ op = 21):∃ c,a = ⟨op,a.W,0,⟨[]⟩,[c]⟩ ∧ nodeB c = true ∧ c.W ≤ a.W:=by
 obtain ⟨aop,aw,am,anm,aks⟩:=a
 simp only at ho
 subst ho
 obtain ⟨_,hs⟩:=Xy h
 rcases hs with h | h | h | h | h | h | h | ⟨_,rfl,rfl,c,rfl,h2,h3⟩
 ·exfalso; have:=h.1; omega
 ·exfalso; have:=h.1; omega
 ·exfalso; have:=h.1; omega
 ·exfalso; have:=h.2.1; omega
 ·exfalso; have:=h.1; omega
 ·exfalso; have:=h.1; omega
 ·exfalso; have:=h.1; omega
 ·exact ⟨c,rfl,h2,h3⟩
theorem Zkh {a:D.Term} (h:nodeB a = true) (ho:a.Op = 1):∃ c,a = ⟨1,a.W,0,⟨[]⟩,[c]⟩ ∧ nodeB c = true ∧ c.W = a.W:=by
 obtain ⟨aop,aw,am,anm,aks⟩:=a
 simp only at ho
 subst ho
 obtain ⟨_,hs⟩:=Xy h
 rcases hs with h | h | ⟨_,rfl,rfl,c,rfl,h2,h3⟩ | h | h | h | h | h
 ·exfalso; have:=h.1; omega
 ·exfalso; have:=h.1; omega
 ·exact ⟨c,rfl,h2,h3⟩
 ·exfalso; have:=h.1; omega
 ·exfalso; have:=h.1; omega
 ·exfalso; have:=h.1; omega
 ·exfalso; have:=h.1; omega
 ·exfalso; have:=h.1; omega
theorem Zji {a:D.Term} (h:nodeB a = true) (ho:a.Op = 18):∃ b c,a = ⟨18,a.W,0,⟨[]⟩,[b,c]⟩ ∧ nodeB b = true ∧ nodeB c = true ∧ b.W + c.W = a.W:=by
 obtain ⟨aop,aw,am,anm,aks⟩:=a
 simp only at ho
 subst ho
 obtain ⟨_,hs⟩:=Xy h
 rcases hs with h | h | h | h | h | ⟨_,rfl,rfl,b,c,rfl,h2,h3,h4⟩ | h | h
 ·exfalso; have:=h.1; omega
 ·exfalso; have:=h.1; omega
 ·exfalso; have:=h.1; omega
 ·exfalso; have:=h.2.1; omega
 ·exfalso; have:=h.1; omega
 ·exact ⟨b,c,rfl,h2,h3,h4⟩
 ·exfalso; have:=h.1; omega
 ·exfalso; have:=h.1; omega
theorem Zk9 {a:D.Term} {op:Int} (h:nodeB a = true) (ho:a.Op = op) (h3:3 ≤ op) (h16:op ≤ 16):∃ b c,a = ⟨op,a.W,0,⟨[]⟩,[b,c]⟩ ∧ nodeB b = true ∧ nodeB c = true ∧ b.W = c.W ∧ (op ≤ 13 → b.W = a.W):=by
 obtain ⟨aop,aw,am,anm,aks⟩:=a
 simp only at ho
 subst ho
 obtain ⟨_,hs⟩:=Xy h
 rcases hs with h | h | h | ⟨_,_,rfl,rfl,b,c,rfl,h2,h3,h4,h5,h6⟩ | h | h | h | h
 ·exfalso; have:=h.1; omega
 ·exfalso; have:=h.1; omega
 ·exfalso; have:=h.1; omega
 ·exact ⟨b,c,rfl,h2,h3,h4,h5⟩
 ·exfalso; have:=h.1; omega
 ·exfalso; have:=h.1; omega
 ·exfalso; have:=h.1; omega
 ·exfalso; have:=h.1; omega
theorem Zjo {op w:Int} {a:D.Term} (ho:op = 20 ∨ op = 21) (ha:nodeB a = true) (hw:a.W ≤ w) (h16:w ≤ 16) (hc:(a.Op == 0) = false):Stp ⟨op,w,0,⟨[]⟩,[a]⟩:=by
 have n1:((op == 1) || (op == 2)) = false:=by simp; omega
 have n2:(op == 17) = false:=by simp; omega
 have n3:(op == 19) = false:=by simp; omega
 have n4:((op == 20) || (op == 21)) = true:=by simpa using ho
 have hn:decide (3 ≤ op ∧ op ≤ 16) = false:=by simp; omega
 by_cases e1:a.W = w
 ·refine .fin ha e1 (by rw [cnt1]; omega) (fun k hk => ?_) (fun k hk => ?_)
  ·rw [Yk (by simp) (by simp) (by simp [hc]), n1, n2, n3, n4]
   simp [Yx,get0,e1]
  ·rw [Yd (by simp) (by simp [hc]), hn, n1, n2, n3, n4]
   simp [get0,e1]
 by_cases e2:a.Op = op
 ·obtain ⟨c, ea, hcc, hcw⟩ := ZhL ha e2 ho
  refine .go 5 7 (u:=⟨op,w,0,⟨[]⟩,[c]⟩) (X4 (ZjG ho hcc h16 (by omega)) rfl (by rw [ea,cnt1,cnt1,cnt1]; omega)) (fun k hk=>?_) (fun k hk=>?_)
  ·rw [Yk (by simp) (by simp) (by simp [hc]), n1, n2, n3, n4]
   have ek:a.Kids = [c]:=by rw [ea]
   simp [Yx,Zo,Zf,get0,show ¬ w = a.W by omega,e2,ek]
  ·rw [Yd (by simp) (by simp [hc]), hn, n1, n2, n3, n4]
   have ek:a.Kids = [c]:=by rw [ea]
   simp [get0,e1,e2,ek]
 ·refine .fin (ZjG ho ha h16 hw) rfl (Zl3 _) (fun k hk => ?_) (fun k hk => ?_)
  ·rw [Yk (by simp) (by simp) (by simp [hc]), n1, n2, n3, n4]
   simp [Yx,get0,show ¬ w = a.W by omega,e2]
  ·rw [Yd (by simp) (by simp [hc]), hn, n1, n2, n3, n4]
   simp [get0,e1,e2]
theorem Zjt {w m:Int} {a:D.Term} (ha:nodeB a = true) (h0:0 ≤ m) (hm:m ≤ 16) (h1:1 ≤ w) (hw:m + w ≤ a.W) (hc:(a.Op == 0) = false):Stp ⟨19,w,m,⟨[]⟩,[a]⟩:=by
 have g:=YB ha
 by_cases e1:w = a.W
 ·have e0 : m = 0 := by omega
  refine .fin ha e1.symm (by rw [cnt1]; omega) (fun k hk=>?_) (fun k hk=>?_)
  ·rw [Yk (by simp) (by simp) (by simp [hc])]
   simp [ZM,get0,e1,e0]
  ·rw [Yd (by simp) (by simp [hc])]
   simp [Yu,get0,e1]
 by_cases e2:a.Op = 19
 ·obtain ⟨c, ea, hcc, b0, b16, hcw⟩ := ZfK ha e2
  have gc:=YB hcc
  have ek:a.Kids = [c]:=by rw [ea]
  refine .go 5 5 (u:=⟨19,w,m + a.N,⟨[]⟩,[c]⟩) (X4 (Zc4 hcc (by omega) h1 (by omega)) rfl (by rw [ea,cnt1,cnt1,cnt1]; omega)) (fun k hk=>?_) (fun k hk=>?_)
  ·rw [Yk (by simp) (by simp) (by simp [hc])]
   simp [ZM,Zo,Zf,get0,e1,e2,ek,Zk (x:=m + a.N) (by omega) (by omega)]
  ·rw [Yd (by simp) (by simp [hc])]
   simp [Yu,Yl,Zf,get0,e1,e2,ek,Zk (x:=m + a.N) (by omega) (by omega)]
 have w1:w64 (m + w) = m + w:=Zk (by omega) (by omega)
 by_cases e3:a.Op = 18
 ·obtain ⟨b, c, ea, hb, hcc, hbc⟩ := Zji ha e3
  have gb:=YB hb
  have gc:=YB hcc
  have ek:a.Kids = [b,c]:=by rw [ea]
  by_cases e4:m + w ≤ c.W
  ·refine .go 5 5 (u := ⟨19, w, m, ⟨[]⟩, [c]⟩) (X4 (Zc4 hcc h0 h1 e4) rfl (by rw [ea, cnt1, cnt1, cnt2]; omega)) (fun k hk => ?_) (fun k hk => ?_)
   ·rw [Yk (by simp) (by simp) (by simp [hc])]
    simp [ZM,Zo,Zf,get0,get1,e1,e3,ek,w1,e4]
   ·rw [Yd (by simp) (by simp [hc])]
    simp [Yu,Yl,Zf,get0,get1,e1,e3,ek,w1,e4]
  by_cases e5:c.W ≤ m
  ·have w2 : w64 (m - c.W) = m - c.W := Zk (by omega) (by omega)
   refine .go 5 5 (u:=⟨19,w,m - c.W,⟨[]⟩,[b]⟩) (X4 (Zc4 hb (by omega) h1 (by omega)) rfl (by rw [ea,cnt1,cnt1,cnt2]; omega)) (fun k hk=>?_) (fun k hk=>?_)
   ·rw [Yk (by simp) (by simp) (by simp [hc])]
    simp [ZM,Zo,Zf,get0,get1,e1,e3,ek,w1,e4,e5,w2]
   ·rw [Yd (by simp) (by simp [hc])]
    simp [Yu,Yl,Zf,get0,get1,e1,e3,ek,w1,e4,e5,w2]
  ·refine .fin (Zc4 ha h0 h1 hw) rfl (Zl3 _) (fun k hk => ?_) (fun k hk => ?_)
   ·rw [Yk (by simp) (by simp) (by simp [hc])]
    simp [ZM,Zo,Zf,get0,get1,e1,e3,ek,w1,e4,e5]
   ·rw [Yd (by simp) (by simp [hc])]
    simp [Yu,Yl,Zf,get0,get1,e1,e3,ek,w1,e4,e5,Zj]
 by_cases e6:a.Op = 20 ∨ a.Op = 21
 ·obtain ⟨c, ea, hcc, hcw⟩ := ZhL ha rfl e6
  have gc:=YB hcc
  have ek:a.Kids = [c]:=by rw [ea]
  have e7:20 ≤ a.Op ∧ a.Op ≤ 21:=by omega
  have e8:(a.Op == 20 || a.Op == 21) = true:=by simpa using e6
  by_cases e4:m + w ≤ c.W
  ·refine .go 5 5 (u := ⟨19, w, m, ⟨[]⟩, [c]⟩) (X4 (Zc4 hcc h0 h1 e4) rfl (by rw [ea, cnt1, cnt1, cnt1]; omega)) (fun k hk => ?_) (fun k hk => ?_)
   ·rw [Yk (by simp) (by simp) (by simp [hc])]
    simp [ZM,Zo,Zf,get0,get1,e1,e2,e3,e6,ek,w1,e4]
   ·rw [Yd (by simp) (by simp [hc])]
    simp only [Yu,Yl,Zf,Zj]
    simp [get0,get1,e1,e2,e3,ek,w1,e4,e7.1,e7.2]
  ·refine .fin (Zc4 ha h0 h1 hw) rfl (Zl3 _) (fun k hk => ?_) (fun k hk => ?_)
   ·rw [Yk (by simp) (by simp) (by simp [hc])]
    simp [ZM,Zo,Zf,get0,get1,e1,e2,e3,e6,ek,w1,e4]
   ·rw [Yd (by simp) (by simp [hc])]
    simp only [Yu,Yl,Zf,Zj]
    simp [get0,get1,e1,e2,e3,ek,w1,e4,e7.1,e7.2]
 ·have e7 : ¬ (20 ≤ a.Op ∧ a.Op ≤ 21) := by omega
  refine .fin (Zc4 ha h0 h1 hw) rfl (Zl3 _) (fun k hk=>?_) (fun k hk=>?_)
  ·rw [Yk (by simp) (by simp) (by simp [hc])]
   simp [ZM,Zo,Zf,get0,get1,e1,e2,e3,e6]
  ·rw [Yd (by simp) (by simp [hc])]
   simp only [Yu,Yl,Zf,Zj]
   simp [get0,get1,e1,e2,e3,e7]
theorem ZfZ {w:Int} {a b:D.Term} (ha:nodeB a = true) (hb:nodeB b = true) (hw:a.W + b.W = w) (h16:w ≤ 16):nodeB ⟨18,w,0,⟨[]⟩,[a,b]⟩ = true:=by
 have g1:=YB ha
 have g2:=YB hb
 rw [Xi,ZL]; simp [locB,shB,Zag,ha,hb,hw,h16,show 1 ≤ w by omega]
theorem Ziw {w:Int} {a b:D.Term} (ha:nodeB a = true) (hb:nodeB b = true) (hw:a.W + b.W = w) (h16:w ≤ 16) (hc:(a.Op == 0 && b.Op == 0) = false) (hn:cnt a ≤ 240):Stp ⟨18,w,0,⟨[]⟩,[a,b]⟩:=by
 have hc':([a,b].all fun x=>x.Op == 0) = false:=by simpa using hc
 have ga:=YB ha
 have gb:=YB hb
 by_cases e1:a.Op = 19 ∧ b.Op = 19
 ·obtain ⟨c, ea, hcc, a0, a16, hcw⟩ := ZfK ha e1.1
  obtain ⟨d,eb,hd,b0,b16,hdw⟩:=ZfK hb e1.2
  have gc:=YB hcc
  have gd:=YB hd
  have eka:a.Kids = [c]:=by rw [ea]
  have ekb:b.Kids = [d]:=by rw [eb]
  have w1:w64 (b.N + b.W) = b.N + b.W:=Zk (by omega) (by omega)
  have hcn:cnt c ≤ 240:=by rw [ea,cnt1] at hn; omega
  have hmc:=ZbG hcc
  have i2:∀ k,1100000 ≤ k → ZX (k + 6) c d = some (ctm c d == 0):=fun k hk=>Zb0 (by omega) (by omega)
  have s2:∀ k,1100000 ≤ k → Yb (k + 7) c d = some (ctm c d == 0):=fun k hk=>Zby (by omega) (by omega)
  by_cases e2:a.N = b.N + b.W
  ·by_cases e3 : ctm c d = 0
   ·have hcd:c.W = d.W:=by
     rw [Zc3] at e3
     by_cases q1:sg c.Op d.Op = 0
     ·by_cases q2 : sg c.W d.W = 0
      ·unfold sg at q2; split at q2 <;> (try split at q2) <;> omega
      ·simp [q1,q2] at e3
     ·simp [q1] at e3
    refine .go 5 7 (u:=⟨19,w,b.N,⟨[]⟩,[d]⟩) (X4 (Zc4 hd b0 (by omega) (by omega)) rfl (by rw [ea,eb,cnt1,cnt2,cnt1,cnt1]; omega)) (fun k hk=>?_) (fun k hk=>?_)
    ·rw [Yk (by simp) (by simp) hc']
     simp [Yp,Zo,Zf,get0,get1,e1.1,e1.2,eka,ekb,w1,e2,i2 k hk,e3]
    ·rw [Yd (by simp) (by rw [hc']; simp)]
     simp [get0,get1,e1.1,e1.2,eka,ekb,w1,e2,s2 k hk,e3]
   ·refine .fin (ZfZ ha hb hw h16) rfl (Zl3 _) (fun k hk => ?_) (fun k hk => ?_)
    ·rw [Yk (by simp) (by simp) hc']
     simp [Yp,Zo,Zf,get0,get1,e1.1,e1.2,eka,ekb,w1,e2,i2 k hk,e3]
    ·rw [Yd (by simp) (by rw [hc']; simp)]
     simp [get0,get1,e1.1,e1.2,eka,ekb,w1,e2,s2 k hk,e3]
  ·refine .fin (ZfZ ha hb hw h16) rfl (Zl3 _) (fun k hk => ?_) (fun k hk => ?_)
   ·rw [Yk (by simp) (by simp) hc']
    simp [Yp,Zo,Zf,get0,get1,e1.1,e1.2,eka,ekb,w1,e2]
   ·rw [Yd (by simp) (by rw [hc']; simp)]
    simp [get0,get1,e1.1,e1.2,eka,ekb,w1,e2,s2 k hk]
 ·have e2:(a.Op == 19 && b.Op == 19) = false:=by
   cases h:(a.Op == 19 && b.Op == 19)
   ·rfl
   ·rw [Zl0,ZlW,ZlW] at h; exact absurd h e1
  refine .fin (ZfZ ha hb hw h16) rfl (Zl3 _) (fun k hk=>?_) (fun k hk=>?_)
  ·rw [Yk (by simp) (by simp) hc']
   simp only [Yp,get0,get1,Zlx,e2,Zmt,Zly,Zl4]
   rfl
  ·rw [Yd (by simp) (by rw [hc']; simp)]
   simp only [get0,get1,Zlx,e2,Zmt,Zly,Zl4]
   rfl
theorem Zkr {w:Int} {a b c:D.Term} (ha:nodeB a = true) (hb:nodeB b = true) (hcc:nodeB c = true) (h1:a.W = 1) (h2:b.W = w) (h3:c.W = w) (hc:(a.Op == 0 && (b.Op == 0 && c.Op == 0)) = false) (hn:cnt b ≤ 240):Stp ⟨17,w,0,⟨[]⟩,[a,b,c]⟩:=by
 have hc':([a,b,c].all fun x=>x.Op == 0) = false:=by simpa using hc
 have gb:=YB hb
 have pa:=ZbL a
 have pb:=ZbL b
 have pc:=ZbL c
 have hmb:=ZbG hb
 have i2:∀ k,1100000 ≤ k → ZX (k + 6) b c = some (ctm b c == 0):=fun k hk=>Zb0 (by omega) (by omega)
 have s2:∀ k,1100000 ≤ k → Yb (k + 6) b c = some (ctm b c == 0):=fun k hk=>Zby (by omega) (by omega)
 have me:=ZkO ha hb hcc h1 h2 h3
 by_cases e1:a.Op = 0
 ·obtain ⟨ea, va⟩ := Xr ha e1
  rw [h1] at va
  have hv:=(ZZ (by omega) (by omega) a.N).1 va
  have hv2:a.N = 0 ∨ a.N = 1:=by
   have:(2:Int) ^ (1:Int).toNat = 2:=rfl
   omega
  rcases hv2 with e2 | e2
  ·refine .fin hcc h3 (by rw [cnt3]; omega) (fun k hk => ?_) (fun k hk => ?_)
   ·rw [Yk (by simp) (by simp) hc']
    simp [ZW,Zn,Zd,get0,get1,get2',e1,e2]
   ·rw [Yd (by simp) (by rw [hc']; simp)]
    simp [YD,Zp,get0,get1,get2',e1,e2]
  ·refine .fin hb h2 (by rw [cnt3]; omega) (fun k hk => ?_) (fun k hk => ?_)
   ·rw [Yk (by simp) (by simp) hc']
    simp [ZW,Zn,Zd,get0,get1,get2',e1,e2]
   ·rw [Yd (by simp) (by rw [hc']; simp)]
    simp [YD,Zp,get0,get1,get2',e1,e2]
 by_cases e2:ctm b c = 0
 ·refine .fin hb h2 (by rw [cnt3]; omega) (fun k hk => ?_) (fun k hk => ?_)
  ·rw [Yk (by simp) (by simp) hc']
   simp [ZW,Zn,Zd,get0,get1,get2',e1,i2 k hk,e2]
  ·rw [Yd (by simp) (by rw [hc']; simp)]
   simp [YD,Zp,get0,get1,get2',e1,s2 k hk,e2]
 by_cases e3:a.Op = 1
 ·obtain ⟨d, ea, hd, hdw⟩ := Zkh ha e3
  have ek:a.Kids = [d]:=by rw [ea]
  refine .go 5 6 (u:=⟨17,w,0,⟨[]⟩,[d,c,b]⟩) (X4 (ZkO hd hcc hb (by omega) h3 h2) rfl (by rw [ea,cnt3,cnt3,cnt1]; omega)) (fun k hk=>?_) (fun k hk=>?_)
  ·rw [Yk (by simp) (by simp) hc']
   simp [ZW,Zo,Zf,Zn,Zd,get0,get1,get2',i2 k hk,e2,e3,ek]
  ·rw [Yd (by simp) (by rw [hc']; simp)]
   simp [YD,Zf,Zp,get0,get1,get2',s2 k hk,e2,e3,ek]
 by_cases e4:w = 1
 rotate_left
 ·refine .fin me rfl (Zl3 _) (fun k hk => ?_) (fun k hk => ?_)
  ·rw [Yk (by simp) (by simp) hc']
   simp [ZW,Zo,Zf,Zn,Zd,get0,get1,get2',i2 k hk,e1,e2,e3,e4]
  ·rw [Yd (by simp) (by rw [hc']; simp)]
   simp [YD,Zf,Zp,get0,get1,get2',s2 k hk,e1,e2,e3,e4]
 subst e4
 by_cases e5:b.Op = 0 ∧ b.N = 1 ∧ c.Op = 0 ∧ c.N = 0
 ·obtain ⟨q1, q2, q3, q4⟩ := e5
  refine .fin ha h1 (by rw [cnt3]; omega) (fun k hk=>?_) (fun k hk=>?_)
  ·rw [Yk (by simp) (by simp) hc']
   simp [ZW,Zo,Zf,Zn,Zd,get0,get1,get2',i2 k hk,e1,e2,e3,q1,q2,q3,q4]
  ·rw [Yd (by simp) (by rw [hc']; simp)]
   simp [YD,Zf,Zp,get0,get1,get2',s2 k hk,e1,e2,e3,q1,q2,q3,q4]
 by_cases e6:b.Op = 0 ∧ b.N = 0 ∧ c.Op = 0 ∧ c.N = 1
 ·obtain ⟨q1, q2, q3, q4⟩ := e6
  refine .go 5 6 (u:=⟨1,1,0,⟨[]⟩,[a]⟩) (X4 (Zgd (.inl rfl) ha h1) rfl (by rw [cnt1,cnt3]; omega)) (fun k hk=>?_) (fun k hk=>?_)
  ·rw [Yk (by simp) (by simp) hc']
   simp [ZW,Zo,Zf,Zn,Zd,get0,get1,get2',i2 k hk,e1,e2,e3,q1,q2,q3,q4]
  ·rw [Yd (by simp) (by rw [hc']; simp)]
   simp [YD,Zf,Zp,get0,get1,get2',s2 k hk,e1,e2,e3,q1,q2,q3,q4]
 refine .fin me rfl (Zl3 _) (fun k hk=>?_) (fun k hk=>?_)
 ·rw [Yk (by simp) (by simp) hc']
  simp [ZW,Zo,Zf,Zn,Zd,get0,get1,get2',i2 k hk,e1,e2,e3]
  by_cases q1:b.Op = 0 <;> by_cases q2:c.Op = 0 <;> by_cases q3:b.N = 0 <;> by_cases q4:b.N = 1 <;> by_cases q5:c.N = 0 <;> by_cases q6:c.N = 1 <;> simp_all
 ·rw [Yd (by simp) (by rw [hc']; simp)]
  simp [YD,Zf,Zp,get0,get1,get2',s2 k hk,e1,e2,e3]
  by_cases q1:b.Op = 0 <;> by_cases q2:c.Op = 0 <;> by_cases q3:b.N = 0 <;> by_cases q4:b.N = 1 <;> by_cases q5:c.N = 0 <;> by_cases q6:c.N = 1 <;> simp_all
end Go.Proofs.YtlkojmondogmlaaGreatDoor
end
