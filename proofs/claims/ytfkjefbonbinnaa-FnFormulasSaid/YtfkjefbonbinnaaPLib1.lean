/- Texts of this claim put into one: library or plain laws, without the program under test. -/
import Derived.Test.YtfkjefbonbinnaaLib3
import Derived.Test.YtfkjefbonbinnaaDefs
set_option linter.unusedSimpArgs false
set_option linter.unusedVariables false
section
namespace Go.Proofs.Ytfkjefbonbinnaa.Cc
open Go.GL
class FU (n:Nat):Prop where
 le:1048577 ≤ n
theorem lt_fuel {n fuel:Nat} [q:FU fuel] (h:n ≤ 1048576):n < fuel:=by have:=q.le; omega
variable {fuel:Nat} [FU fuel]
def iab (x:Int):Int:=if x < 0 then -x else x
def gateB (n:Int) (seen:List D.Gate) (g:D.Gate):Bool:=
 decide (-(n + 1 + (seen.length:Int)) ≤ g.A ∧ g.A ≤ n + 1 + seen.length) && decide (-(n + 1 + (seen.length:Int)) ≤ g.B ∧ g.B ≤ n + 1 + seen.length) && decide (2 ≤ iab g.A) && decide (iab g.A < iab g.B) && !(seen.contains g)
theorem YE {a:Int} (h:fitInt a) (h' : -1000 ≤ a):Zt a = some (iab a):=by
 unfold Zt iab
 unfold fitInt at h
 by_cases c:a < 0
 ·rw [Zga (by simpa using c),Zga c,Zd (by omega) (by omega)]; simp
 ·rw [Zgb (by simpa using c),Zgb c]
theorem impl_var {a:Int} (h:fitInt a) (h' : -1000 ≤ a):Zp a = some (iab a):=by
 unfold Zp iab
 unfold fitInt at h
 by_cases c:a < 0
 ·rw [Zga (by simpa using c),Zga c,Zd (by omega) (by omega)]; simp
 ·rw [Zgb (by simpa using c),Zgb c]
theorem Zbg {l:List D.Gate} {g:D.Gate} (hb:l.length ≤ 1048576) :
  iterN (fun (s2:Int)=>
      if (decide (s2 < (len l))) then
       (get? l s2).bind fun x9=>
       if (decide (g = x9)) then
        some (.inr (.inr false))
       else
        some (.inl ((w64 (s2 + 1))))
      else
       some (.inr (.inl ()))) fuel 0 = some (if l.contains g then .inr false else (.inl ():Unit ⊕ Bool)):=by
 rw [Y9 (I:=fun k s=>s = (k:Int)) (m:=l.length) (ok:=fun k=>decide (l[k]? ≠ some g)) (r:=.inl ()) (r':=.inr false) (fun k s hk hs hok=>?_) (fun k s hk hs hok=>?_) (fun s hs=>?_) l.length 0 _ (by omega) (by simp) fuel (lt_fuel hb)]
 ·congr 1
  have:((List.range' 0 l.length).all fun k=>decide (l[k]? ≠ some g)) = !(l.contains g):=by
   cases hc:l.contains g with
   | true=>
    rw [Zh2,Zgk] at hc
    obtain ⟨i,hi⟩:=Zhg.1 hc
    have hlt:=(ZfX.1 hi).1
    rw [Zgr,List.all_eq_false]
    exact ⟨i,by simp [Zhm]; omega,by simp [hi]⟩
   | false=>
    rw [Zh2,decide_eq_false_iff_not] at hc
    rw [ZgY,Zgd]
    intro i _
    simp only [ne_eq,Zgk]
    exact fun hi=>hc (Zgt hi)
  rw [this]
  cases l.contains g <;> simp
 ·subst hs
  refine ⟨_,?_,rfl⟩
  rw [Zga (by rw [Zc]; simp; omega),get?_nat,ZfV hk]
  rw [ZfV hk] at hok
  simp only [ZfT]
  rw [Zgb (by intro h; simp at h hok; exact hok h.symm),Zd (by omega) (by omega)]
  rfl
 ·subst hs
  rw [Zga (by rw [Zc]; simp; omega),get?_nat,ZfV hk]
  rw [ZfV hk] at hok
  simp only [ZfT]
  rw [Zga (by simp at hok ⊢; exact hok.symm)]
 ·subst hs
  rw [Zgb (by rw [Zc]; simp)]
def gateAt (x:D.Circuit) (k:Nat):Bool:=match x.Gates[k]? with | some g=>gateB x.Inputs (x.Gates.take k) g | none=>false
def circB2 (x:D.Circuit):Bool:=decide (0 ≤ x.Inputs ∧ x.Inputs ≤ 30) && decide ((x.Gates.length:Int) ≤ 360) && (List.range' 0 x.Gates.length).all (gateAt x)
theorem fitK {g:D.Gate} (h:YP g):ZT g = true:=by
 obtain ⟨h1,h2⟩:=h
 unfold fitInt at h1 h2
 simp only [ZT,fitZ,Lit.wf,IntKind.min,IntKind.max,ZfZ]
 simp [IntKind.bits,IntKind.signed] at *
 omega
theorem Zd9 {x:D.Circuit} (hx:YD x) (hl:x.Gates.length ≤ 1048576):ZZ fuel x = some (circB2 x):=by
 unfold ZZ circB2
 simp only [ZE,ZfT]
 by_cases c:(0 ≤ x.Inputs ∧ x.Inputs ≤ 30) ∧ (x.Gates.length:Int) ≤ 360
 ·obtain ⟨⟨h0, h1⟩, hl3⟩ := c
  rw [Zgb (by rw [Zc]; simp; omega)]
  rw [Y9 (I:=fun k s=>s = (k:Int)) (m:=x.Gates.length) (ok:=gateAt x) (r:=.inl ()) (r':=.inr false) (fun k s hk hs hok=>?_) (fun k s hk hs hok=>?_) (fun s hs=>?_) x.Gates.length 0 _ (by omega) (by simp) fuel (lt_fuel hl)]
  ·simp only [h0, h1, and_self, decide_true, hl3, ZhF]
   cases (List.range' 0 x.Gates.length).all (gateAt x) <;> simp
  all_goals subst hs
  ·refine ⟨((k + 1 : Nat) : Int), ?_, rfl⟩
   have hfit:YP x.Gates[k]:=hx.2.2 _ (Zg7 hk)
   have hlt:(x.Gates.take k).length = k:=by simp; omega
   rw [Zga (by rw [Zc]; simp; omega),get?_nat,ZfV hk]
   simp only [ZfT]
   unfold gateAt at hok
   rw [ZfV hk] at hok
   simp only at hok
   unfold gateB at hok
   rw [hlt] at hok
   generalize x.Gates[k] = g at hfit hok ⊢
   simp only [ZfZ,Zgk,ZgA] at hok
   obtain ⟨⟨⟨⟨cA,cB⟩,c2⟩,c3⟩,c4⟩:=hok
   rw [Zd (x:=x.Inputs + 1) (by omega) (by omega),Zd (x:=x.Inputs + 1 + (k:Int)) (by omega) (by omega),Zd (x:=0 - (x.Inputs + 1 + (k:Int))) (by omega) (by omega)]
   have e1:(decide (g.A ≥ 0 - (x.Inputs + 1 + (k:Int))) && decide (g.A ≤ x.Inputs + 1 + (k:Int))) = true:=by simp; omega
   have e2:(decide (g.B ≥ 0 - (x.Inputs + 1 + (k:Int))) && decide (g.B ≤ x.Inputs + 1 + (k:Int))) = true:=by simp; omega
   have e3:decide (iab g.A < 2) = false:=by simp; omega
   have e4:decide (iab g.A ≥ iab g.B) = false:=by simp; omega
   have hcut:cut? x.Gates 0 (k:Int) = some (x.Gates.take k):=by
    unfold cut?
    rw [Zga ⟨by omega,by omega,by omega⟩]; simp
   simp only [e1,e2,Zgr,Zhy,ZfY,Zgv,ZfT,YE hfit.1 (by omega),YE hfit.2 (by omega),Zgy,e3,e4,hcut]
   rw [Zbg (by omega),c4]
   simp only [ZfY,Zgv,ZfT]
   rw [Zd (by omega) (by omega)]
   rfl
  ·have hfit : YP x.Gates[k] := hx.2.2 _ (Zg7 hk)
   have hlt:(x.Gates.take k).length = k:=by simp; omega
   rw [Zga (by rw [Zc]; simp; omega),get?_nat,ZfV hk]
   simp only [ZfT]
   unfold gateAt at hok
   rw [ZfV hk] at hok
   simp only at hok
   unfold gateB at hok
   rw [hlt] at hok
   generalize x.Gates[k] = g at hfit hok ⊢
   rw [Zd (x:=x.Inputs + 1) (by omega) (by omega),Zd (x:=x.Inputs + 1 + (k:Int)) (by omega) (by omega),Zd (x:=0 - (x.Inputs + 1 + (k:Int))) (by omega) (by omega)]
   by_cases cA : -(x.Inputs + 1 + (k:Int)) ≤ g.A ∧ g.A ≤ x.Inputs + 1 + k
   ·have e1 : (decide (g.A ≥ 0 - (x.Inputs + 1 + (k : Int))) && decide (g.A ≤ x.Inputs + 1 + (k : Int))) = true := by simp; omega
    by_cases cB : -(x.Inputs + 1 + (k:Int)) ≤ g.B ∧ g.B ≤ x.Inputs + 1 + k
    ·have e2 : (decide (g.B ≥ 0 - (x.Inputs + 1 + (k : Int))) && decide (g.B ≤ x.Inputs + 1 + (k : Int))) = true := by simp; omega
     simp only [e1,e2,Zgr,Zhy,ZfY,Zgv,ZfT,YE hfit.1 (by omega),YE hfit.2 (by omega),Zgy]
     by_cases c2:2 ≤ iab g.A
     ·have e3 : decide (iab g.A < 2) = false := by simp; omega
      simp only [e3,ZfY,Zgv,ZfT,Zgy]
      by_cases c3:iab g.A < iab g.B
      ·have e4 : decide (iab g.A ≥ iab g.B) = false := by simp; omega
       simp only [cA,cB,c2,c3,and_self,decide_true,ZhF,Bool.not_eq_false'] at hok
       have hcut:cut? x.Gates 0 (k:Int) = some (x.Gates.take k):=by
        unfold cut?
        rw [Zga ⟨by omega,by omega,by omega⟩]; simp
       simp only [e4,ZfY,Zgv,hcut,ZfT]
       rw [Zbg (by omega),hok]
       simp
      ·have e4 : decide (iab g.A ≥ iab g.B) = true := by simp; omega
       simp only [e4,Zgr,ZgY,Zie,Zib,Zgy,Zih,Zhy,ZfY,Zg6,Zgv,ZfT]
     ·have e3 : decide (iab g.A < 2) = true := by simp; omega
      simp only [e3,Zgr,ZgY,Zie,Zib,Zgy,Zih,Zhy,ZfY,Zg6,Zgv,ZfT]
    ·have e2:(decide (g.B ≥ 0 - (x.Inputs + 1 + (k:Int))) && decide (g.B ≤ x.Inputs + 1 + (k:Int))) = false:=by
      simp only [Zhz,decide_eq_false_iff_not]; omega
     simp only [e1,e2,Zgr,ZgY,Zie,Zib,Zgy,Zih,Zhy,ZfY,Zg6,Zgv,ZfT]
   ·have e1:(decide (g.A ≥ 0 - (x.Inputs + 1 + (k:Int))) && decide (g.A ≤ x.Inputs + 1 + (k:Int))) = false:=by
     simp only [Zhz,decide_eq_false_iff_not]; omega
    simp only [e1,Zgr,ZgY,Zie,Zib,Zgy,Zih,Zhy,ZfY,Zg6,Zgv,ZfT]
  ·rw [Zgb (by rw [Zc]; simp)]
 ·rw [Zga (by rw [Zc]; simp; omega)]
  have:(decide (0 ≤ x.Inputs ∧ x.Inputs ≤ 30) && decide ((x.Gates.length:Int) ≤ 360)) = false:=by
   simp only [Zhz,decide_eq_false_iff_not]; omega
  rw [this]; rfl
theorem Zbe {l:List D.Gate} {g:D.Gate}:((l.reverse.map fun q=>(q,true)).lookup g).getD false = l.contains g:=by
 have key:∀ m:List D.Gate,((m.map fun q=>(q,true)).lookup g).getD false = m.contains g:=by
  intro m
  induction m with
  | nil=>rfl
  | cons q m ih=>
   rw [Zgs,Zg8,ZhE]
   by_cases h:g = q
   ·subst h; simp
   ·have : (g == q) = false := by simpa using h
    rw [this]; simpa using ih
 rw [key,Zhn]
 simp
theorem ZdB {x:D.Circuit} (hx:YD x) (hl:x.Gates.length ≤ 1048576):ZW fuel x = some (circB2 x):=by
 unfold ZW circB2
 by_cases c:(0 ≤ x.Inputs ∧ x.Inputs ≤ 30) ∧ (x.Gates.length:Int) ≤ 360
 ·obtain ⟨⟨h0, h1⟩, hl3⟩ := c
  rw [Zgb (by rw [Zc]; simp; omega)]
  rw [Y9 (I:=fun k s=>s = ((k:Int),(x.Gates.take k).reverse.map fun q=>(q,true))) (m:=x.Gates.length) (ok:=gateAt x) (r:=.inl (x.Gates.reverse.map fun q=>(q,true))) (r':=.inr false) (fun k s hk hs hok=>?_) (fun k s hk hs hok=>?_) (fun s hs=>?_) x.Gates.length 0 _ (by omega) (by simp) fuel (lt_fuel hl)]
  ·simp only [h0, h1, and_self, decide_true, hl3, ZhF]
   cases (List.range' 0 x.Gates.length).all (gateAt x) <;> simp
  all_goals subst hs
  ·refine ⟨(((k + 1 : Nat) : Int), (x.Gates.take (k + 1)).reverse.map fun q => (q, true)), ?_, rfl⟩
   have hfit:YP x.Gates[k]:=hx.2.2 _ (Zg7 hk)
   have hlt:(x.Gates.take k).length = k:=by simp; omega
   rw [Zga (by rw [Zc]; simp; omega),get?_nat,ZfV hk]
   simp only [ZfT]
   unfold gateAt at hok
   rw [ZfV hk] at hok
   simp only at hok
   unfold gateB at hok
   rw [hlt] at hok
   rw [Zg5 hk]
   generalize x.Gates[k] = g at hfit hok ⊢
   simp only [ZfZ,Zgk,ZgA] at hok
   obtain ⟨⟨⟨⟨cA,cB⟩,c2⟩,c3⟩,c4⟩:=hok
   have nA:g.A ≠ 0:=by unfold iab at c2; split at c2 <;> omega
   have nB:g.B ≠ 0:=by unfold iab at c2 c3; split at c2 <;> split at c3 <;> omega
   rw [Zd (x:=1 + x.Inputs) (by omega) (by omega),Zd (x:=1 + x.Inputs + (k:Int)) (by omega) (by omega)]
   have e1:Zm g.A (1 + x.Inputs + (k:Int)) = some true:=by
    unfold Zm
    rw [Zd (by omega) (by omega)]; simp; omega
   have e2:Zm g.B (1 + x.Inputs + (k:Int)) = some true:=by
    unfold Zm
    rw [Zd (by omega) (by omega)]; simp; omega
   have e3:decide (iab g.A < 2) = false:=by simp; omega
   have e4:decide (iab g.A ≥ iab g.B) = false:=by simp; omega
   have hg:mget? ZT false ((x.Gates.take k).reverse.map fun q=>(q,true)) g = some false:=by
    unfold mget?
    rw [Zga (fitK hfit),Zbe,c4]
   have hp:mput? ZT ((x.Gates.take k).reverse.map fun q=>(q,true)) g true = some ((g,true) :: ((x.Gates.take k).reverse.map fun q=>(q,true))):=by
    unfold mput?
    rw [Zga ⟨fitK hfit,by simp; unfold room; omega⟩]
   simp only [e1,e2,Zgr,Zhy,ZfY,Zgv,ZfT,impl_var hfit.1 (by omega),impl_var hfit.2 (by omega),Zgy,e3,e4,hg,hp]
   rw [Zd (by omega) (by omega)]
   simp
  ·have hfit : YP x.Gates[k] := hx.2.2 _ (Zg7 hk)
   have hlt:(x.Gates.take k).length = k:=by simp; omega
   rw [Zga (by rw [Zc]; simp; omega),get?_nat,ZfV hk]
   simp only [ZfT]
   unfold gateAt at hok
   rw [ZfV hk] at hok
   simp only at hok
   unfold gateB at hok
   rw [hlt] at hok
   generalize x.Gates[k] = g at hfit hok ⊢
   rw [Zd (x:=1 + x.Inputs) (by omega) (by omega),Zd (x:=1 + x.Inputs + (k:Int)) (by omega) (by omega)]
   have lit:∀ a:Int,Zm a (1 + x.Inputs + (k:Int)) = some (decide (a ≠ 0 ∧ -(1 + x.Inputs + (k:Int)) ≤ a ∧ a ≤ 1 + x.Inputs + (k:Int))):=by
    intro a
    unfold Zm
    rw [Zd (by omega) (by omega)]
    congr 1
    rw [Zhn]
    simp
    omega
   have hg:mget? ZT false ((x.Gates.take k).reverse.map fun q=>(q,true)) g = some ((x.Gates.take k).contains g):=by
    unfold mget?
    rw [Zga (fitK hfit),Zbe]
   simp only [lit,ZfT]
   by_cases cA:g.A ≠ 0 ∧ -(1 + x.Inputs + (k:Int)) ≤ g.A ∧ g.A ≤ 1 + x.Inputs + (k:Int)
   ·by_cases cB : g.B ≠ 0 ∧ -(1 + x.Inputs + (k : Int)) ≤ g.B ∧ g.B ≤ 1 + x.Inputs + (k : Int)
    ·simp only [cA, cB, ne_eq, not_false_eq_true, and_self, decide_true, Zgr, Zhy, ZfY, Zgv, ZfT, hg, Zgy]
     cases hc:(x.Gates.take k).contains g with
     | true=>simp
     | false=>
      simp only [ZfY,Zgv,impl_var hfit.1 (by omega),impl_var hfit.2 (by omega),ZfT]
      by_cases c2:iab g.A < 2
      ·simp [c2]
      ·have e3 : decide (iab g.A < 2) = false := by simp; omega
       simp only [e3,ZfY,Zgv,ZfT,Zgy]
       by_cases c3:iab g.A ≥ iab g.B
       ·simp [c3]
       ·exfalso
        rw [hc] at hok
        have:(decide (-(x.Inputs + 1 + (k:Int)) ≤ g.A ∧ g.A ≤ x.Inputs + 1 + (k:Int)) && decide (-(x.Inputs + 1 + (k:Int)) ≤ g.B ∧ g.B ≤ x.Inputs + 1 + (k:Int)) && decide (2 ≤ iab g.A) && decide (iab g.A < iab g.B) && !false) = true:=by
         simp; omega
        rw [this] at hok; cases hok
    ·have eB : decide (g.B ≠ 0 ∧ -(1 + x.Inputs + (k : Int)) ≤ g.B ∧ g.B ≤ 1 + x.Inputs + (k : Int)) = false := by simpa using cB
     rw [eB]
     simp [cA]
   ·have eA : decide (g.A ≠ 0 ∧ -(1 + x.Inputs + (k : Int)) ≤ g.A ∧ g.A ≤ 1 + x.Inputs + (k : Int)) = false := by simpa using cA
    rw [eA]
    simp
  ·simp only
   rw [Zgb (by rw [Zc]; simp),Zh8]
 ·rw [Zga (by rw [Zc]; simp; omega)]
  have:(decide (0 ≤ x.Inputs ∧ x.Inputs ≤ 30) && decide ((x.Gates.length:Int) ≤ 360)) = false:=by
   simp only [Zhz,decide_eq_false_iff_not]; omega
  rw [this]; rfl
end Go.Proofs.Ytfkjefbonbinnaa.Cc
end
section
namespace Go.Proofs.Ytfkjefbonbinnaa.Cc
open Go.GL
variable {fuel:Nat} [FU fuel]
theorem ZaA {σt ρt:Type} {B:σt → Option (σt ⊕ ρt)} {I:Nat → σt → Prop} {m:Nat} {ok:Nat → Bool} {r:ρt} {r':Nat → ρt} (hs:∀ k s,k < m → I k s → ok k = false → ∃ s',B s = some (.inl s') ∧ I (k + 1) s') (hn:∀ k s,k < m → I k s → ok k = true → B s = some (.inr (r' k)))
  (hf:∀ s,I m s → B s = some (.inr r)):∀ (d k:Nat) (s:σt),k + d = m → I k s → ∀ n,d < n → iterN B n s = some (match (List.range' k d).find? ok with | some i=>r' i | none=>r)
 | 0,k,s,hk,hi,n,hn'=>by
  obtain ⟨n,rfl⟩ : ∃ j,n = j + 1:=⟨n - 1,by omega⟩
  obtain rfl:k = m:=by omega
  unfold iterN; rw [hf s hi]
  simp
 | d + 1,k,s,hk,hi,n,hn'=>by
  obtain ⟨n,rfl⟩ : ∃ j,n = j + 1:=⟨n - 1,by omega⟩
  unfold iterN
  rw [Zh7]
  cases hok:ok k with
  | false=>
   obtain ⟨s',h1,h2⟩:=hs k s (by omega) hi hok
   rw [h1]
   simp only
   rw [ZaA hs hn hf d (k + 1) s' (by omega) h2 n (by omega),ZhX,hok]
  | true=>
   rw [hn k s (by omega) hi hok,ZhX,hok]
def find (l:List D.Gate) (g:D.Gate):Option Nat:=(List.range' 0 l.length).find? fun i=>decide (l[i]? = some g)
theorem ZdN {l:List D.Gate} {g:D.Gate} {i:Nat} (h:find l g = some i):i < l.length ∧ l[i]? = some g:=by
 have:=List.find?_some h
 simp only [Zgk] at this
 exact ⟨(ZfX.1 this).1,this⟩
theorem ZdD {l:List D.Gate} {g:D.Gate}:find l g = none ↔ g ∉ l:=by
 unfold find
 rw [List.find?_eq_none]
 simp only [Zhm,Zhe,ZgW,true_and,Zgk]
 constructor
 ·intro h hm
  obtain ⟨i,hi⟩:=Zhg.1 hm
  exact h i (ZfX.1 hi).1 hi
 ·intro h i _ hi
  exact h (Zgt hi)
theorem Zdk {l:List D.Gate} {g h:D.Gate}:find (l ++ [h]) g = (find l g).or (if g = h then some l.length else none):=by
 unfold find
 rw [Zgh,ZgR,List.range'_concat,List.find?_append]
 congr 1
 ·have:∀ n,n ≤ l.length → ∀ k,k + n ≤ l.length → (List.range' k n).find? (fun i=>decide ((l ++ [h])[i]? = some g)) = (List.range' k n).find? (fun i=>decide (l[i]? = some g)):=by
   intro n
   induction n with
   | zero=>intro _ k _; rfl
   | succ n ih=>
    intro hn k hk
    rw [Zh7,ZhX,ZhX,ih (by omega) (k + 1) (by omega),Zge (by omega)]
  exact this _ (Zgp _) 0 (by omega)
 ·simp only [Zhe, Nat.one_mul, List.find?_singleton]
  rw [Zgc (Zgp _)]
  simp only [ZhA,ZgL,Option.some.injEq,Zgk]
  by_cases e:g = h
  ·rw [Zga e,Zga e.symm]
  ·rw [Zgb e,Zgb (fun h=>e h.symm)]
def lines (c:D.Circuit):Int:=c.Inputs + 1 + c.Gates.length
def litN (n x:Int):Bool:=decide (1 ≤ iab x) && decide (iab x ≤ n)
theorem litN_iff {n x:Int}:litN n x = true ↔ 1 ≤ iab x ∧ iab x ≤ n:=by unfold litN; simp
theorem iab_neg (x:Int):iab (-x) = iab x:=by unfold iab; split <;> split <;> omega
theorem Zad {n x:Int}:litN n (-x) = litN n x:=by unfold litN; rw [iab_neg]
theorem Zdy {n n' x:Int} (h:litN n x = true) (hn:n ≤ n'):litN n' x = true:=by rw [litN_iff] at *; omega
structure CircP (c:D.Circuit):Prop where
 i0:0 ≤ c.Inputs
 i1:c.Inputs ≤ 30
 len:c.Gates.length ≤ 360
 gate:∀ k g,c.Gates[k]? = some g → gateB c.Inputs (c.Gates.take k) g = true
theorem circP_iff {c:D.Circuit}:circB2 c = true ↔ CircP c:=by
 unfold circB2
 simp only [ZfZ,Zgk,Zgd,Zhm,Zhe,ZgW,true_and]
 constructor
 ·rintro ⟨⟨⟨h1, h2⟩, h3⟩, h4⟩
  refine ⟨h1,h2,by omega,fun k g hg=>?_⟩
  have:=h4 k (ZfX.1 hg).1
  unfold gateAt at this
  rw [hg] at this
  exact this
 ·rintro ⟨h1, h2, h3, h4⟩
  refine ⟨⟨⟨h1,h2⟩,by omega⟩,fun k hk=>?_⟩
  unfold gateAt
  rw [ZfV hk]
  exact h4 k _ (ZfV hk)
theorem CircP.lines0 {c:D.Circuit} (h:CircP c):1 ≤ lines c:=by have:=h.i0; unfold lines; omega
theorem CircP.lines1 {c:D.Circuit} (h:CircP c):lines c ≤ 391:=by have:=h.i1; have:=h.len; unfold lines; omega
theorem X0 {n:Int} {l:List D.Gate} {g:D.Gate}:gateB n l g = true ↔ (-(n + 1 + (l.length:Int)) ≤ g.A ∧ g.A ≤ n + 1 + l.length) ∧ (-(n + 1 + (l.length:Int)) ≤ g.B ∧ g.B ≤ n + 1 + l.length) ∧ 2 ≤ iab g.A ∧ iab g.A < iab g.B ∧ g ∉ l:=by
 unfold gateB
 simp only [ZfZ,Zgk,ZgA,Zh2,decide_eq_false_iff_not,and_assoc]
theorem CircP.fit {c:D.Circuit} (h:CircP c):YD c:=by
 refine ⟨by have:=h.i0; have:=h.i1; unfold fitInt; omega,by have:=h.len; omega,fun g hg=>?_⟩
 obtain ⟨k,hk⟩:=Zhg.1 hg
 have h1:=X0.1 (h.gate k g hk)
 have hl:=(ZfX.1 hk).1
 have h2:=h.len
 have h3:=h.i1
 have:(c.Gates.take k).length ≤ 360:=by rw [Zgq]; omega
 unfold YP fitInt
 omega
theorem CircP.snoc {c:D.Circuit} (h:CircP c) {g:D.Gate} (hl:c.Gates.length < 360) (hg:gateB c.Inputs c.Gates g = true):CircP ⟨c.Inputs,c.Gates ++ [g]⟩:=by
 refine ⟨h.i0,h.i1,by simp; omega,fun k x hx=>?_⟩
 simp only at hx ⊢
 by_cases hk:k < c.Gates.length
 ·rw [Zge hk] at hx
  rw [Zhb (by omega)]
  exact h.gate k x hx
 ·have hk2 := (ZfX.1 hx).1
  simp at hk2
  obtain rfl:k = c.Gates.length:=by omega
  rw [Zgc (Zgp _)] at hx
  simp at hx
  subst hx
  rw [Zhb (Zgp _),Zh8]
  exact hg
structure Grow (c c':D.Circuit):Prop where
 inputs:c'.Inputs = c.Inputs
 gates:c.Gates <+: c'.Gates
theorem Grow.refl (c:D.Circuit):Grow c c:=⟨rfl,List.prefix_rfl⟩
theorem Grow.trans {a b c:D.Circuit} (h:Grow a b) (k:Grow b c):Grow a c:=⟨k.1.trans h.1,h.2.trans k.2⟩
def gate2 (a b:Int):D.Gate:=if iab a > iab b then ⟨b,a⟩ else ⟨a,b⟩
abbrev BS:=D.Circuit × Bool
def andP (s:BS) (a b:Int):Int × BS:=
 if a = -1 ∨ b = -1 ∨ a = -b then (-1,s) else if a = 1 then (b,s) else if b = 1 ∨ a = b then (a,s) else
 match find s.1.Gates (gate2 a b) with
 | some i=>(s.1.Inputs + 2 + i,s)
 | none=>if 360 ≤ s.1.Gates.length then (-1,(s.1,true)) else (s.1.Inputs + 2 + s.1.Gates.length,(⟨s.1.Inputs,s.1.Gates ++ [gate2 a b]⟩,s.2))
theorem Zeg {s:BS} (hs:CircP s.1) {a b:Int} (ha:litN (lines s.1) a = true) (hb:litN (lines s.1) b = true) (h1:¬ (a = -1 ∨ b = -1 ∨ a = -b)) (h2:¬ a = 1) (h3:¬ (b = 1 ∨ a = b)) (hf:find s.1.Gates (gate2 a b) = none):gateB s.1.Inputs s.1.Gates (gate2 a b) = true:=by
 rw [X0]
 have hn:=ZdD.1 hf
 rw [litN_iff] at ha hb
 have hl:lines s.1 = s.1.Inputs + 1 + s.1.Gates.length:=rfl
 rw [hl] at ha hb
 refine ⟨?_,?_,?_,?_,hn⟩ <;> (unfold gate2; unfold iab at *; split <;> grind)
theorem Zfa {s:BS} (hs:CircP s.1) {a b:Int} (ha:litN (lines s.1) a = true) (hb:litN (lines s.1) b = true) :
  CircP (andP s a b).2.1 ∧ Grow s.1 (andP s a b).2.1 ∧ litN (lines (andP s a b).2.1) (andP s a b).1 = true:=by
 have h1n:=hs.lines0
 have hi:=hs.i0
 unfold andP
 split
 ·exact ⟨hs,Grow.refl _,litN_iff.2 ⟨by simp [iab],by simpa [iab] using h1n⟩⟩
 ·rename_i c1
  split
  ·exact ⟨hs,Grow.refl _,hb⟩
  ·rename_i c2
   split
   ·exact ⟨hs,Grow.refl _,ha⟩
   ·rename_i c3
    split
    ·rename_i i hf
     refine ⟨hs,Grow.refl _,litN_iff.2 ?_⟩
     have:=(ZdN hf).1
     simp only
     unfold iab lines
     rw [Zgb (by omega)]; omega
    ·rename_i hf
     split
     ·exact ⟨hs,Grow.refl _,litN_iff.2 ⟨by simp [iab],by simpa [iab] using h1n⟩⟩
     ·rename_i c4
      refine ⟨hs.snoc (by omega) (Zeg hs ha hb c1 c2 c3 hf),⟨rfl,List.prefix_append _ _⟩,litN_iff.2 ?_⟩
      simp only
      unfold iab lines
      rw [Zgb (by omega)]; simp; omega
theorem Yo {n a:Int} (h:litN n a = true) (hn:n ≤ 391):fitInt a ∧ -1000 ≤ a:=by
 rw [litN_iff] at h
 unfold iab at h
 unfold fitInt
 split at h <;> omega
theorem Zdq (a b:Int):(D.Gate.mk (cond (decide (iab a > iab b)) b a) (cond (decide (iab a > iab b)) a b)) = gate2 a b:=by
 unfold gate2
 by_cases h:iab a > iab b
 ·rw [Zga h,decide_eq_true h]; rfl
 ·rw [Zgb h,decide_eq_false h]; rfl
theorem dec3 {a b:Int} (hb : -1000 ≤ b ∧ b ≤ 1000):((((a == (-1)) || (b == (-1))) || (a == (w64 (0 - b)))) = true) ↔ (a = -1 ∨ b = -1 ∨ a = -b):=by
 rw [Zd (by omega) (by omega)]
 simp only [ZgS,Zhd,or_assoc,Int.zero_sub]
theorem ZeF {s:BS} (hs:CircP s.1) {a b:Int} (ha:litN (lines s.1) a = true) (hb:litN (lines s.1) b = true) :
  Zx fuel ⟨s.1,s.2⟩ a b = some ((andP s a b).1,⟨(andP s a b).2.1,(andP s a b).2.2⟩):=by
 have hln:=hs.lines1
 have hi0:=hs.i0
 have hi1:=hs.i1
 have hlen:=hs.len
 have fa:=Yo ha hln
 have fb:=Yo hb hln
 have hb2:=litN_iff.1 hb
 have hbb : -1000 ≤ b ∧ b ≤ 1000:=by unfold iab at hb2; split at hb2 <;> omega
 unfold Zx andP
 by_cases c1:a = -1 ∨ b = -1 ∨ a = -b
 ·rw [Zga ((dec3 hbb).2 c1),Zga c1]
 rw [Zgb (fun h=>c1 ((dec3 hbb).1 h)),Zgb c1]
 by_cases c2:a = 1
 ·rw [Zga (by simpa using c2),Zga c2]
 rw [Zgb (by simpa using c2),Zgb c2]
 by_cases c3:b = 1 ∨ a = b
 ·rw [Zga (by simpa using c3),Zga c3]
 rw [Zgb (by simpa using c3),Zgb c3]
 simp only [YE fa.1 fa.2,YE fb.1 fb.2,ZfT,Zdq]
 rw [ZaA (I:=fun k t=>t = (k:Int)) (m:=s.1.Gates.length) (ok:=fun k=>decide (s.1.Gates[k]? = some (gate2 a b))) (r:=.inl ()) (r':=fun k=>.inr (s.1.Inputs + 2 + k,⟨s.1,s.2⟩)) (fun k t hk ht hok=>?_) (fun k t hk ht hok=>?_) (fun t ht=>?_) s.1.Gates.length 0 _ (by omega) (by simp) fuel (lt_fuel (by omega))]
 ·show Option.bind (some (match find s.1.Gates (gate2 a b) with | some i => _ | none => _)) _ = _
  cases hf:find s.1.Gates (gate2 a b) with
  | some i=>rfl
  | none=>
   simp only [ZfT]
   by_cases c4:360 ≤ s.1.Gates.length
   ·rw [Zga (by rw [Zc]; simp; omega),Zga c4]
   ·rw [Zgb (by rw [Zc]; simp; omega), Zgb c4]
    have happ:app? s.1.Gates [gate2 a b] = some (s.1.Gates ++ [gate2 a b]):=by
     unfold app?; rw [Zga (by simp; unfold room; omega)]
    rw [happ]
    simp only [ZfT]
    rw [Zc,Zgh,ZgR,Zd (x:=s.1.Inputs + 1) (by omega) (by omega),Zd (by omega) (by omega)]
    congr 2
    omega
 all_goals subst ht
 ·refine ⟨((k + 1 : Nat) : Int), ?_, rfl⟩
  rw [Zga (by rw [Zc]; simp; omega),get?_nat,ZfV hk]
  rw [ZfV hk] at hok
  simp only [ZfT]
  rw [Zgb (by intro h; simp only [Zgk,decide_eq_false_iff_not,Option.some.injEq] at h hok; exact hok h.symm),Zd (by omega) (by omega)]
  rfl
 ·rw [Zga (by rw [Zc]; simp; omega), get?_nat, ZfV hk]
  rw [ZfV hk] at hok
  simp only [Zgk,Option.some.injEq] at hok
  simp only [ZfT]
  rw [Zga (by simp only [Zgk]; exact hok.symm),Zd (x:=s.1.Inputs + 2) (by omega) (by omega),Zd (by omega) (by omega)]
 ·rw [Zgb (by rw [Zc]; simp)]
structure LineOk (n:Int) (l:List D.Gate) (m:List (D.Gate × Int)):Prop where
 look:∀ g,m.lookup g = (find l g).map fun (i:Nat)=>n + 2 + (i:Int)
 len:m.length = l.length
theorem LineOk.nil (n:Int):LineOk n [] []:=⟨fun _=>rfl,rfl⟩
theorem LineOk.snoc {n:Int} {l:List D.Gate} {m:List (D.Gate × Int)} (h:LineOk n l m) {g:D.Gate} (hg:find l g = none):LineOk n (l ++ [g]) ((g,n + 2 + (l.length:Int)) :: m):=by
 refine ⟨fun x=>?_,by simp [h.len]⟩
 rw [Zg8,Zdk]
 by_cases e:x = g
 ·subst e
  simp [hg]
 ·have : (x == g) = false := by simpa using e
  rw [this,Zgb e,h.look x]
  simp
end Go.Proofs.Ytfkjefbonbinnaa.Cc
end
section
namespace Go.Proofs.Ytfkjefbonbinnaa.Cc
open Go.GL
variable {fuel:Nat} [FU fuel]
abbrev net (s:BS):D.l04Net:=⟨s.1,s.2⟩
structure Good (s:BS) (r:Int × BS):Prop where
 circ:CircP r.2.1
 grow:Grow s.1 r.2.1
 lit:litN (lines r.2.1) r.1 = true
theorem ZbC {n x:Int} (h:litN n x = true) (hn:n ≤ 391):w64 (0 - x) = -x:=by
 have:=Yo h hn
 rw [litN_iff] at h
 unfold iab at h
 rw [Zd (by split at h <;> omega) (by split at h <;> omega)]; omega
section
variable {s:BS} (hs:CircP s.1)
include hs
theorem Zeq {a b:Int} (ha:litN (lines s.1) a = true) (hb:litN (lines s.1) b = true):Good s (andP s a b):=by
 obtain ⟨h1,h2,h3⟩:=Zfa hs ha hb
 exact ⟨h1,h2,h3⟩
end
theorem Zcp {n x:Int} (hn:0 ≤ n):(decide (x ≠ 0) && (decide (-n ≤ x) && decide (x ≤ n))) = litN n x:=by
 unfold litN iab
 split <;> grind
theorem XD {x n:Int} (h0:0 ≤ n) (h1:n ≤ 1000):Zm x n = some (litN n x):=by
 unfold Zm
 rw [Zd (by omega) (by omega),← Zcp h0,Bool.and_assoc]
 congr 1
 have e1:(x != 0) = decide (x ≠ 0):=by cases h:x != 0 <;> simp_all
 have e2:decide (x ≥ 0 - n) = decide (-n ≤ x):=by simp
 rw [e1,e2]
theorem Xb {l:List Int} {n:Int} (h0:0 ≤ n) (h1:n ≤ 1000) (hl:l.length ≤ 1048576):Zw fuel l n = some (l.all (litN n)):=by
 unfold Zw
 rw [Y9 (I:=fun k t=>t = (k:Int)) (m:=l.length) (ok:=fun k=>(l[k]?).all (litN n)) (r:=.inl ()) (r':=.inr false) (fun k t hk ht hok=>?_) (fun k t hk ht hok=>?_) (fun t ht=>?_) l.length 0 _ (by omega) (by simp) fuel (lt_fuel hl)]
 ·have:((List.range' 0 l.length).all fun k=>(l[k]?).all (litN n)) = l.all (litN n):=by
   rw [Zhn,Zgd,Zgd]
   constructor
   ·intro h x hx
    obtain ⟨i,hi⟩:=Zhg.1 hx
    have:=h i (by simp [Zhm]; exact (ZfX.1 hi).1)
    rw [hi] at this; simpa using this
   ·intro h i hi
    simp [Zhm] at hi
    rw [ZfV hi]
    simpa using h _ (Zg7 hi)
  rw [this]
  cases l.all (litN n) <;> simp
 all_goals subst ht
 ·refine ⟨((k + 1 : Nat) : Int), ?_, rfl⟩
  rw [Zga (by rw [Zc]; simp; omega),get?_nat,ZfV hk]
  rw [ZfV hk] at hok
  simp only [Option.all_some] at hok
  simp only [ZfT,XD h0 h1,hok]
  rw [Zgb (by simp),Zd (by omega) (by omega)]
  rfl
 ·rw [Zga (by rw [Zc]; simp; omega), get?_nat, ZfV hk]
  rw [ZfV hk] at hok
  simp only [Option.all_some] at hok
  simp only [ZfT,XD h0 h1,hok]
  rw [Zga (by simp)]
 ·rw [Zgb (by rw [Zc]; simp)]
theorem ZcA {c:D.Circuit} (hc:CircP c):Ye c = some (lines c):=by
 have:=hc.i0
 have:=hc.i1
 have:=hc.len
 unfold Ye
 rw [Zc,Zd (x:=1 + c.Inputs) (by omega) (by omega),Zd (by omega) (by omega)]
 unfold lines
 congr 1; omega
end Go.Proofs.Ytfkjefbonbinnaa.Cc
end
section
namespace Go.Proofs.Ytfkjefbonbinnaa.Cc
open Go.GL
variable {fuel:Nat} [FU fuel]
end Go.Proofs.Ytfkjefbonbinnaa.Cc
end
section
namespace Go.Proofs.Ytfkjefbonbinnaa.Cc
open Go.GL
set_option linter.unusedSimpArgs false
variable {fuel:Nat} [FU fuel]
theorem j0:w64 0 = 0:=by decide
theorem j1:w64 1 = 1:=by decide
theorem j2:w64 2 = 2:=by decide
theorem j3:w64 3 = 3:=by decide
theorem cmpv {x y:Int} (hx:litN 391 x = true) (hy:litN 391 y = true) (h:iab x < iab y):Z5 x y = some (-1):=by
 unfold Z5
 obtain ⟨fx,fx'⟩:=Yo hx (ZgC _)
 obtain ⟨fy,fy'⟩:=Yo hy (ZgC _)
 rw [impl_var fx fx',impl_var fy fy']
 simp [ZG,ZN,h]
theorem cmpv' {x y:Int} (hx:litN 391 x = true) (hy:litN 391 y = true) (h:iab y < iab x):Z5 x y = some 1:=by
 unfold Z5
 obtain ⟨fx,fx'⟩:=Yo hx (ZgC _)
 obtain ⟨fy,fy'⟩:=Yo hy (ZgC _)
 rw [impl_var fx fx',impl_var fy fy']
 have h2:¬ iab x < iab y:=by omega
 simp [ZG,ZN,h,h2]
theorem insC2 (n:Nat) {x y:Int} (hx:litN 391 x = true) (hy:litN 391 y = true) (h:iab y < iab x):Zb (n + 6) [x,y] 0 2 = some [y,x]:=by
 unfold Zb
 have e1:=cmpv hy hx h
 simp [iterN,get?,set?,e1,j0,j1,j2]
theorem insC3 (n:Nat) {x y z:Int} (hx:litN 391 x = true) (hy:litN 391 y = true) (hz:litN 391 z = true) (h:iab y < iab z) (h2:iab z < iab x):Zb (n + 6) [x,y,z] 0 3 = some [y,z,x]:=by
 unfold Zb
 have e1:=cmpv hy hx (by omega)
 have e2:=cmpv hz hx h2
 have e3:=cmpv' hz hy h
 simp [iterN,get?,set?,e1,e2,e3,j0,j1,j2,j3]
theorem sortC2 (n:Nat) {x y:Int} (hx:litN 391 x = true) (hy:litN 391 y = true) (h:iab y < iab x):Za (n + 6) [x,y] = some [y,x]:=by
 unfold Za
 have hl:len [x,y] = 2:=rfl
 have hb:Yl (IntKind.u64.wrap 2) = some 2:=by decide
 rw [hl,hb]
 simp only [ZfT]
 unfold Zg
 simp [iterN,insC2 n hx hy h,j2]
theorem sortC3 (n:Nat) {x y z:Int} (hx:litN 391 x = true) (hy:litN 391 y = true) (hz:litN 391 z = true) (h:iab y < iab z) (h2:iab z < iab x):Za (n + 6) [x,y,z] = some [y,z,x]:=by
 unfold Za
 have hl:len [x,y,z] = 3:=rfl
 have hb:Yl (IntKind.u64.wrap 3) = some 2:=by decide
 rw [hl,hb]
 simp only [ZfT]
 unfold Zg
 simp [iterN,insC3 n hx hy hz h h2,j3]
theorem ZcH {x y:Int} (h:iab x < iab y):¬ x = y ∧ ¬ y = x ∧ ¬ y = -x ∧ ¬ x = -y:=by
 unfold iab at h
 split at h <;> split at h <;> omega
theorem compC2 (n:Nat) {x y:Int} (h:iab y < iab x):Zi (n + 6) [y,x] = some [y,x]:=by
 unfold Zi
 have hl:len [y,x] = 2:=rfl
 have:=ZcH h
 rw [hl]
 simp [iterN,get?,this,j1,j2,j0]
theorem compC3 (n:Nat) {x y z:Int} (h:iab y < iab z) (h2:iab z < iab x):Zi (n + 6) [y,z,x] = some [y,z,x]:=by
 unfold Zi
 have hl:len [y,z,x] = 3:=rfl
 have t1:=ZcH h
 have t2:=ZcH h2
 rw [hl]
 simp [iterN,get?,t1,t2,j1,j2,j0,j3]
theorem lit400 {x:Int} (h:litN 391 x = true):litN 400 x = true:=Zdy h (by decide)
theorem clauseOk2 {x y:Int} (hx:litN 391 x = true) (hy:litN 391 y = true) (h:iab y < iab x):Z0 fuel [y,x] 400 = some true:=by
 unfold Z0
 rw [Xb (by decide) (by decide) (by simp)]
 obtain ⟨fx,fx'⟩:=Yo hx (ZgC _)
 obtain ⟨fy,fy'⟩:=Yo hy (ZgC _)
 have v1:=impl_var fx fx'
 have v2:=impl_var fy fy'
 have ha:[y,x].all (litN 400) = true:=by simp [lit400 hx,lit400 hy]
 have hl:len [y,x] = 2:=rfl
 obtain ⟨n,hf⟩ : ∃ n,fuel = n + 6:=⟨fuel - 6,by have:=FU.le (n:=fuel); omega⟩
 have hn:¬ iab x ≤ iab y:=by omega
 rw [ha,hl,hf]
 simp [iterN,get?,v1,v2,hn,j0,j1,j2]
theorem clauseOk3 {x y z:Int} (hx:litN 391 x = true) (hy:litN 391 y = true) (hz:litN 391 z = true) (h:iab y < iab z) (h2:iab z < iab x):Z0 fuel [y,z,x] 400 = some true:=by
 unfold Z0
 rw [Xb (by decide) (by decide) (by simp)]
 obtain ⟨fx,fx'⟩:=Yo hx (ZgC _)
 obtain ⟨fy,fy'⟩:=Yo hy (ZgC _)
 obtain ⟨fz,fz'⟩:=Yo hz (ZgC _)
 have v1:=impl_var fx fx'
 have v2:=impl_var fy fy'
 have v3:=impl_var fz fz'
 have ha:[y,z,x].all (litN 400) = true:=by simp [lit400 hx,lit400 hy,lit400 hz]
 have hl:len [y,z,x] = 3:=rfl
 obtain ⟨n,hf⟩ : ∃ n,fuel = n + 6:=⟨fuel - 6,by have:=FU.le (n:=fuel); omega⟩
 have hn:¬ iab z ≤ iab y:=by omega
 have hn2:¬ iab x ≤ iab z:=by omega
 rw [ha,hl,hf]
 simp [iterN,get?,v1,v2,v3,hn,hn2,j0,j1,j2,j3]
theorem mkI2 (n:Nat) [FU (n + 6)] {x y:Int} (hx:litN 391 x = true) (hy:litN 391 y = true) (h:iab y < iab x):Zq (n + 6) [x,y] = some ([y,x],true):=by
 unfold Zq
 have ha:[x,y].all (litN 400) = true:=by simp [lit400 hx,lit400 hy]
 have hc:Zl [x,y] = some [x,y]:=rfl
 rw [Xb (by decide) (by decide) (by simp),ha,hc]
 simp only [ZfT,Zgr,ZfY,Zgv]
 have h1:Za (n + 6) [x,y] = _:=sortC2 n hx hy h
 have h2:Zi (n + 6) [y,x] = _:=compC2 n h
 rw [h1]
 simp only [ZfT]
 rw [h2]
 simp only [ZfT]
 rw [clauseOk2 (fuel:=n + 6) hx hy h]
 rfl
theorem mkI3 (n:Nat) [FU (n + 6)] {x y z:Int} (hx:litN 391 x = true) (hy:litN 391 y = true) (hz:litN 391 z = true) (h:iab y < iab z) (h2:iab z < iab x):Zq (n + 6) [x,y,z] = some ([y,z,x],true):=by
 unfold Zq
 have ha:[x,y,z].all (litN 400) = true:=by simp [lit400 hx,lit400 hy,lit400 hz]
 have hc:Zl [x,y,z] = some [x,y,z]:=rfl
 rw [Xb (by decide) (by decide) (by simp),ha,hc]
 simp only [ZfT,Zgr,ZfY,Zgv]
 have e1:Za (n + 6) [x,y,z] = _:=sortC3 n hx hy hz h h2
 have e2:Zi (n + 6) [y,z,x] = _:=compC3 n h h2
 rw [e1]
 simp only [ZfT]
 rw [e2]
 simp only [ZfT]
 rw [clauseOk3 (fuel:=n + 6) hx hy hz h h2]
 rfl
theorem inner3 (n:Nat) {MC:List Int → Option (List Int × Bool)} {l1 l2 l3 r1 r2 r3:List Int} (h1:MC l1 = some (r1,true)) (h2:MC l2 = some (r2,true)) (h3:MC l3 = some (r3,true)) {out:List (List Int)} (hl:out.length ≤ 100000) :
  iterN (fun (s2:Int × (List (List Int)))=>
   if (decide (s2.1 < (len ([l1,l2,l3]:List (List Int))))) then
    (get? ([l1,l2,l3]:List (List Int)) s2.1).bind fun x4=>
    (MC x4).bind fun x5=>
    (app? s2.2 ([x5.1]:List (List Int))).bind fun x6=>
    some (.inl ((w64 (s2.1 + 1)),x6))
   else
    some (.inr (s2.2))) (n + 6) (0,out) = some (out ++ [r1,r2,r3]):=by
 have hc:len ([l1,l2,l3]:List (List Int)) = 3:=rfl
 have ha:∀ (l:List (List Int)) (q:List Int),l.length ≤ 100003 → app? l [q] = some (l ++ [q]):=fun l q h=>by unfold app?; rw [Zga (by simp; unfold room; omega)]
 have a1:=ha out r1 (by omega)
 have a2:=ha (out ++ [r1]) r2 (by simp; omega)
 have a3:=ha (out ++ [r1] ++ [r2]) r3 (by simp; omega)
 simp only [Zg2,List.singleton_append] at a2 a3
 rw [hc]
 simp [iterN,get?,h1,h2,h3,a1,a2,a3,j0,j1,j2,j3]
def stepF (c:D.Circuit) (i:Nat) (g:D.Gate):List (List Int):=[[g.A,-(c.Inputs + 2 + i)],[g.B,-(c.Inputs + 2 + i)],[-g.A,-g.B,c.Inputs + 2 + i]]
def accF (c:D.Circuit):Nat → List (List Int)
 | 0=>[[1]]
 | k + 1=>accF c k ++ stepF c k (c.Gates.getD k ⟨0,0⟩)
theorem accF_len (c:D.Circuit) (k:Nat):(accF c k).length = 1 + 3 * k:=by
 induction k with
 | zero=>rfl
 | succ k ih=>simp only [accF,Zgh,ih,stepF,Zg9,ZhG]; omega
structure GateOk (c:D.Circuit) (k:Nat) (g:D.Gate):Prop where
 a:litN 391 g.A = true
 b:litN 391 g.B = true
 na:litN 391 (-g.A) = true
 nb:litN 391 (-g.B) = true
 l:litN 391 (c.Inputs + 2 + k) = true
 nl:litN 391 (-(c.Inputs + 2 + k)) = true
 ab:iab (-g.A) < iab (-g.B)
 bl:iab (-g.B) < iab (c.Inputs + 2 + k)
 al':iab g.A < iab (-(c.Inputs + 2 + k))
 bl':iab g.B < iab (-(c.Inputs + 2 + k))
theorem gate_ok {c:D.Circuit} (hc:CircP c) {k:Nat} {g:D.Gate} (hg:c.Gates[k]? = some g):GateOk c k g:=by
 have h:=X0.1 (hc.gate k g hg)
 obtain ⟨h1,h2,h3,h4,-⟩:=h
 have hk:=(ZfX.1 hg).1
 have hlt:(c.Gates.take k).length = k:=by simp; omega
 rw [hlt] at h1 h2
 have hl:=hc.lines1
 have hi:=hc.i0
 unfold lines at hl
 have e1:iab (c.Inputs + 2 + k) = c.Inputs + 2 + k:=by unfold iab; rw [Zgb (by omega)]
 have b1:iab g.A ≤ c.Inputs + 1 + k:=by unfold iab; split <;> omega
 have b2:iab g.B ≤ c.Inputs + 1 + k:=by unfold iab; split <;> omega
 refine ⟨litN_iff.2 (by omega),litN_iff.2 (by omega),?_,?_,litN_iff.2 (by omega),?_,?_,?_,?_,?_⟩
 ·rw [Zad]; exact litN_iff.2 (by omega)
 ·rw [Zad]; exact litN_iff.2 (by omega)
 ·rw [Zad]; exact litN_iff.2 (by omega)
 ·rw [iab_neg,iab_neg]; exact h4
 ·rw [iab_neg]; omega
 ·rw [iab_neg]; omega
 ·rw [iab_neg]; omega
def formP (c:D.Circuit) (lit:Int):D.Formula × Bool:=if circB2 c && litN (lines c) lit then (⟨lines c,accF c c.Gates.length ++ [[lit]]⟩,true) else (⟨0,[]⟩,false)
theorem X4 {c:D.Circuit} {k:Nat} (hk:k < c.Gates.length):c.Gates[k]? = some (c.Gates.getD k ⟨0,0⟩):=by
 rw [ZfW,ZfV hk]; rfl
theorem impl_FormulaOf_eq {c:D.Circuit} {lit:Int} (hc:YD c) (hg:c.Gates.length ≤ 1048576):ZX fuel c lit = some (formP c lit):=by
 obtain ⟨N,rfl⟩ : ∃ n,fuel = n + 6:=⟨fuel - 6,by have:=FU.le (n:=fuel); omega⟩
 unfold ZX formP
 rw [ZdB hc hg]
 simp only [ZfT]
 cases h1:circB2 c with
 | false=>simp
 | true=>
  have hp:=circP_iff.1 h1
  have hl0:=hp.lines0
  have hl1:=hp.lines1
  simp only [Zgr,ZfY,Zgv,ZcA hp,ZfT,Zgy,ZhF,XD (x:=lit) (n:=lines c) (by omega) (by omega)]
  cases h2:litN (lines c) lit with
  | false=>simp
  | true=>
   have hi0:=hp.i0
   have hi1:=hp.i1
   have hl:=hp.len
   simp only [Zgr,ZfY,Zgv,Zg6]
   rw [Yb (I:=fun k t=>t = ((k:Int),accF c k)) (m:=c.Gates.length) (r:=accF c c.Gates.length) (fun k t hk ht=>?_) (fun t ht=>?_) c.Gates.length 0 (0,[[1]]) (by omega) rfl (N + 6) (lt_fuel (by omega))]
   ·simp only [ZfT]
    have ha:app? (accF c c.Gates.length) [[lit]] = some (accF c c.Gates.length ++ [[lit]]):=by unfold app?; rw [Zga (by rw [accF_len]; simp; unfold room; omega)]
    rw [ha]
    rfl
   all_goals subst ht
   ·refine ⟨_, ?_, rfl⟩
    have o:=gate_ok hp (X4 hk)
    simp only [accF]
    rw [Zga (by rw [Zc]; simp; omega),get?_nat,X4 hk]
    simp only [ZfT]
    generalize c.Gates.getD k ⟨0,0⟩ = g at o ⊢
    rw [show w64 (2 + c.Inputs) = c.Inputs + 2 by rw [Zd (by omega) (by omega)]; omega,Zd (x:=c.Inputs + 2 + (k:Int)) (by omega) (by omega),ZbC o.a (ZgC _),ZbC o.b (ZgC _),ZbC o.l (ZgC _)]
    have m1:Zq (N + 6) [-(c.Inputs + 2 + (k:Int)),g.A] = _:=mkI2 N o.nl o.a o.al'
    have m2:Zq (N + 6) [-(c.Inputs + 2 + (k:Int)),g.B] = _:=mkI2 N o.nl o.b o.bl'
    have m3:Zq (N + 6) [c.Inputs + 2 + (k:Int),-g.A,-g.B] = _:=mkI3 N o.l o.na o.nb o.ab o.bl
    have q:=inner3 N (MC:=Zq (N + 6)) m1 m2 m3 (out:=accF c k) (by rw [accF_len]; omega)
    have q':iterN _ (N + 6) _ = _:=q
    rw [q']
    simp only [ZfT]
    rw [Zd (by omega) (by omega)]
    rfl
   ·simp only
    rw [Zgb (by rw [Zc]; simp)]
def IncI (n:Int) (c:List Int):Prop:=(∀ x ∈ c,litN n x = true) ∧ c.Pairwise fun x y=>iab x < iab y
theorem Ze1 {c:D.Circuit}:∀ k,∀ x ∈ accF c k,x = [1] ∨ ∃ i,i < k ∧ x ∈ stepF c i (c.Gates.getD i ⟨0,0⟩):=by
 intro k
 induction k with
 | zero=>intro x hx; exact .inl (Zgo.1 hx)
 | succ k ih=>
  intro x hx
  rcases Zgu.1 hx with h | h
  ·rcases ih x h with h | ⟨i, h1, h2⟩
   ·exact .inl h
   ·exact .inr ⟨i,by omega,h2⟩
  ·exact .inr ⟨k,by omega,h⟩
theorem inc1 {n x:Int} (h:litN n x = true):IncI n [x]:=⟨fun y hy=>by rw [Zgo.1 hy]; exact h,by simp⟩
theorem form_inc {c:D.Circuit} (hc:CircP c) {lit:Int} (hl:litN (lines c) lit = true):∀ x ∈ accF c c.Gates.length ++ [[lit]],IncI (lines c) x ∧ x.length ≤ 3:=by
 intro x hx
 rcases Zgu.1 hx with hx | hx
 ·rcases Ze1 _ x hx with rfl | ⟨i, hi, h⟩
  ·exact ⟨inc1 (litN_iff.2 (by have:=hc.lines0; unfold iab; simp; omega)),by simp⟩
  ·have o := gate_ok hc (X4 hi)
   have hb:=X0.1 (hc.gate i _ (X4 hi))
   have hlt:(c.Gates.take i).length = i:=by simp; omega
   rw [hlt] at hb
   obtain ⟨h1,h2,h3,h4,-⟩:=hb
   generalize c.Gates.getD i ⟨0,0⟩ = g at *
   have hi0:=hc.i0
   have eN:lines c = c.Inputs + 1 + (c.Gates.length:Int):=rfl
   have lt:∀ y:Int,1 ≤ iab y → iab y ≤ c.Inputs + 2 + (i:Int) → litN (lines c) y = true:=fun y a b=>litN_iff.2 ⟨a,by omega⟩
   have o1:=(litN_iff.1 o.a).1
   have o2:=(litN_iff.1 o.b).1
   have o3:=(litN_iff.1 o.l).1
   have e1:iab (c.Inputs + 2 + (i:Int)) = c.Inputs + 2 + (i:Int):=by unfold iab; rw [Zgb (by omega)]
   have oa:=o.al'
   have ob:=o.bl'
   have oc:=o.ab
   rw [iab_neg,e1] at oa ob
   rw [iab_neg,iab_neg] at oc
   unfold stepF at h
   simp only [Zgz,ZgE,or_false] at h
   rcases h with rfl | rfl | rfl
   ·exact ⟨⟨by simp only [Zgz,ZgE,or_false]; rintro y (rfl | rfl); exact lt _ o1 (by omega); exact lt _ (by rw [iab_neg]; omega) (by rw [iab_neg]; omega),by simp [iab_neg,e1]; omega⟩,by simp⟩
   ·exact ⟨⟨by simp only [Zgz,ZgE,or_false]; rintro y (rfl | rfl); exact lt _ o2 (by omega); exact lt _ (by rw [iab_neg]; omega) (by rw [iab_neg]; omega),by simp [iab_neg,e1]; omega⟩,by simp⟩
   ·exact ⟨⟨by simp only [Zgz,ZgE,or_false]; rintro y (rfl | rfl | rfl); exact lt _ (by rw [iab_neg]; omega) (by rw [iab_neg]; omega); exact lt _ (by rw [iab_neg]; omega) (by rw [iab_neg]; omega); exact lt _ (by omega) (by omega),by simp [iab_neg,e1]; omega⟩,by simp⟩
 ·rw [Zgo.1 hx]; exact ⟨inc1 hl,by simp⟩
def prv (c:List Int):Nat → Int
 | 0=>0
 | k + 1=>iab (c.getD k 0)
theorem Zcv {n:Int} {c:List Int} (h:IncI n c) {k:Nat} (hk:k < c.length):1 ≤ iab c[k] ∧ iab c[k] ≤ n ∧ prv c k < iab c[k]:=by
 have h1:=litN_iff.1 (h.1 _ (Zg7 hk))
 refine ⟨h1.1,h1.2,?_⟩
 cases k with
 | zero=>show (0:Int) < _; omega
 | succ k=>
  show iab (c.getD k 0) < _
  rw [ZfW,ZfV (by omega)]
  exact (Zh5.1 h.2) k (k + 1) (by omega) hk (by omega)
theorem Zer {n:Int} {c:List Int} (h0:0 ≤ n) (h1:n ≤ 400) (h:IncI n c) (hl:c.length ≤ 1000):ZY fuel c n = some true:=by
 unfold ZY
 rw [Yb (I:=fun k t=>t = (prv c k,(k:Int))) (m:=c.length) (r:=.inl ()) (fun k t hk ht=>?_) (fun t ht=>?_) c.length 0 (0,0) (by omega) rfl fuel (lt_fuel (by omega))]
 ·rfl
 all_goals subst ht
 ·refine ⟨_, ?_, rfl⟩
  obtain ⟨a1,a2,a3⟩:=Zcv h hk
  have hb : -1000 ≤ c[k] ∧ fitInt c[k]:=by unfold fitInt; unfold iab at a2; split at a2 <;> omega
  simp only
  rw [Zga (by rw [Zc]; simp; omega),get?_nat,ZfV hk]
  simp only [ZfT]
  have hi:ZE c[k] (w64 (0 - n)) n = some true:=by
   unfold ZE
   rw [Zd (by omega) (by omega)]
   unfold iab at a2; split at a2 <;> simp <;> omega
  rw [hi]
  simp only [ZfT,Zgr,ZfY,Zgv,Zgy,YE hb.2 hb.1]
  rw [Zgb (by simp; omega),Zd (by omega) (by omega)]
  simp only [prv]
  rw [ZfW,ZfV hk]; rfl
 ·simp only
  rw [Zgb (by rw [Zc]; simp)]
theorem Ze8 {n:Int} {c:List Int} (h0:0 ≤ n) (h1:n ≤ 400) (h:IncI n c) (hl:c.length ≤ 1000):Z0 fuel c n = some true:=by
 unfold Z0
 rw [Xb h0 (by omega) (by omega),show c.all (litN n) = true from Zgd.2 h.1]
 simp only [ZfT,Zgr,ZfY,Zgv]
 rw [Yb (I:=fun k t=>t = ((k + 1:Nat):Int)) (m:=c.length - 1) (r:=.inl ()) (fun k t hk ht=>?_) (fun t ht=>?_) (c.length - 1) 0 1 (by omega) rfl fuel (lt_fuel (by omega))]
 ·rfl
 all_goals subst ht
 ·refine ⟨_, ?_, rfl⟩
  have hk1:k + 1 < c.length:=by omega
  have hk0:k < c.length:=by omega
  obtain ⟨a1,a2,a3⟩:=Zcv h hk1
  obtain ⟨b1,b2,b3⟩:=Zcv h hk0
  have hx : -1000 ≤ c[k + 1] ∧ fitInt c[k + 1]:=by unfold fitInt; unfold iab at a2; split at a2 <;> omega
  have hy : -1000 ≤ c[k] ∧ fitInt c[k]:=by unfold fitInt; unfold iab at b2; split at b2 <;> omega
  replace a3:iab (c.getD k 0) < _:=a3
  rw [ZfW,ZfV hk0] at a3
  have e1:w64 (((k + 1:Nat):Int) - 1) = (k:Int):=by rw [Zd (by omega) (by omega)]; omega
  rw [Zga (by rw [Zc]; simp; omega),e1,get?_nat,get?_nat,ZfV hk1,ZfV hk0]
  simp only [ZfT,impl_var hx.2 hx.1,impl_var hy.2 hy.1]
  rw [Zgb (by simp at a3 ⊢; omega),Zd (by omega) (by omega)]; rfl
 ·rw [Zgb (by rw [Zc]; simp; omega)]
section
variable {f:D.Formula} (h0:0 ≤ f.Vars) (h1:f.Vars ≤ 400) (hn:f.Clauses.length ≤ 1600) (h:∀ c ∈ f.Clauses,IncI f.Vars c ∧ c.length ≤ 1000)
include h0 h1 hn h
theorem spec_fok:ZL fuel f = some true:=by
 unfold ZL
 rw [show ZE f.Vars 0 400 = some true by unfold ZE; simp; omega]
 simp only [ZfT]
 rw [Zgb (by rw [Zc]; simp; omega)]
 rw [Yb (I:=fun k t=>t = (k:Int)) (m:=f.Clauses.length) (r:=.inl ()) (fun k t hk ht=>?_) (fun t ht=>?_) f.Clauses.length 0 0 (by omega) rfl fuel (lt_fuel (by omega))]
 ·rfl
 all_goals subst ht
 ·refine ⟨((k + 1 : Nat) : Int), ?_, rfl⟩
  have hc:=h _ (Zg7 hk)
  rw [Zga (by rw [Zc]; simp; omega),get?_nat,ZfV hk]
  simp only [ZfT]
  rw [Zer h0 h1 hc.1 hc.2]
  simp only [ZfT]
  rw [Zgb (by simp),Zd (by omega) (by omega)]; rfl
 ·rw [Zgb (by rw [Zc]; simp)]
theorem impl_fok:Zv fuel f = some true:=by
 unfold Zv
 rw [Zgb (by rw [Zc]; simp; omega)]
 rw [Yb (I:=fun k t=>t = (k:Int)) (m:=f.Clauses.length) (r:=.inl ()) (fun k t hk ht=>?_) (fun t ht=>?_) f.Clauses.length 0 0 (by omega) rfl fuel (lt_fuel (by omega))]
 ·rfl
 all_goals subst ht
 ·refine ⟨((k + 1 : Nat) : Int), ?_, rfl⟩
  have hc:=h _ (Zg7 hk)
  rw [Zga (by rw [Zc]; simp; omega),get?_nat,ZfV hk]
  simp only [ZfT]
  rw [Ze8 h0 h1 hc.1 hc.2]
  simp only [ZfT]
  rw [Zgb (by simp),Zd (by omega) (by omega)]; rfl
 ·rw [Zgb (by rw [Zc]; simp)]
end
end Go.Proofs.Ytfkjefbonbinnaa.Cc
end
section
namespace Go.Proofs.Ytfkjefbonbinnaa.Cc
open Go.GL
variable {fuel:Nat} [FU fuel]
def litV (l:List Bool) (a:Int):Bool:=if a < 0 then !((l[(iab a - 1).toNat]?).getD false) else (l[(iab a - 1).toNat]?).getD false
def stepV (l:List Bool) (g:D.Gate):List Bool:=l ++ [litV l g.A && litV l g.B]
theorem Zde {l:List Bool} {a:Int} (h1:1 ≤ iab a) (h2:iab a ≤ l.length):∃ v,l[(iab a - 1).toNat]? = some v ∧ litV l a = if a < 0 then !v else v:=by
 have hlt:(iab a - 1).toNat < l.length:=by omega
 refine ⟨l[(iab a - 1).toNat],ZfV hlt,?_⟩
 unfold litV
 rw [ZfV hlt]; rfl
theorem Zce {l:List Bool} {a:Int} (hl:l.length ≤ 1048576) (h1:1 ≤ iab a) (h2:iab a ≤ l.length):Yh l a = some (litV l a):=by
 obtain ⟨v,hv,he⟩:=Zde h1 h2
 have hfit:fitInt a ∧ -2000000 ≤ a:=by
  unfold iab at h1 h2
  unfold fitInt
  split at h1 <;> split at h2 <;> omega
 have hab:Zt a = some (iab a):=by
  unfold Zt iab
  by_cases c:a < 0
  ·rw [Zga (by simpa using c),Zga c,Zd (by omega) (by omega)]; simp
  ·rw [Zgb (by simpa using c),Zgb c]
 unfold Yh
 rw [hab]
 simp only [ZfT]
 rw [Zd (by omega) (by omega),show iab a - 1 = (((iab a - 1).toNat:Nat):Int) by omega,get?_nat,hv,he]
 simp only [ZfT]
 unfold iab at h1
 by_cases c:a < 0
 ·have : decide (a > 0) = false := by simp; omega
  rw [this,Zga c]; cases v <;> rfl
 ·rw [Zgb c] at h1
  have:decide (a > 0) = true:=by simp; omega
  rw [this,Zgb c]; cases v <;> rfl
def outV' (x:D.Circuit) (l:List Bool) (k:Nat):List Bool:=(x.Gates.take k).foldl stepV ([true] ++ l)
theorem ZeC (gs:List D.Gate) (l:List Bool):(gs.foldl stepV l).length = l.length + gs.length:=by
 induction gs generalizing l with
 | nil=>simp
 | cons g gs ih=>rw [Zin,ih]; simp [stepV]; omega
theorem Ze5 {x:D.Circuit} {l:List Bool} {k:Nat} (h:k ≤ x.Gates.length):(outV' x l k).length = 1 + l.length + k:=by
 unfold outV'; rw [ZeC]; simp; omega
theorem Zd5 {x:D.Circuit} {l:List Bool} {k:Nat} (h:k < x.Gates.length):outV' x l (k + 1) = stepV (outV' x l k) x.Gates[k]:=by
 unfold outV'; rw [Zg5 h,List.foldl_append]; rfl
theorem Zff {x:D.Circuit} (h:circB2 x = true) {k:Nat} (hk:k < x.Gates.length):0 ≤ x.Inputs ∧ x.Inputs ≤ 30 ∧ x.Gates.length ≤ 360 ∧ 1 ≤ iab x.Gates[k].A ∧ iab x.Gates[k].A ≤ x.Inputs + 1 + k ∧ 1 ≤ iab x.Gates[k].B ∧ iab x.Gates[k].B ≤ x.Inputs + 1 + k:=by
 unfold circB2 at h
 simp only [ZfZ,Zgk,Zgd] at h
 obtain ⟨⟨h1,h2⟩,h3⟩:=h
 have hg:=h3 k (by simp [Zhm]; omega)
 unfold gateAt at hg
 rw [ZfV hk] at hg
 simp only at hg
 unfold gateB at hg
 have hlt:(x.Gates.take k).length = k:=by simp; omega
 rw [hlt] at hg
 simp only [ZfZ,Zgk] at hg
 obtain ⟨⟨⟨⟨a1,a2⟩,a3⟩,a4⟩,-⟩:=hg
 refine ⟨h1.1,h1.2,by omega,by omega,?_,by omega,?_⟩
 ·unfold iab; split <;> omega
 ·unfold iab; split <;> omega
def evalB (x:D.Circuit) (l:List Bool):List Bool:=if circB2 x && (len l == x.Inputs) then outV' x l x.Gates.length else []
theorem spec_eval {x:D.Circuit} {l:List Bool} (hx:YD x) (hl:x.Gates.length ≤ 1048576) (hl2:l.length ≤ 1048576):Z7 fuel x l = some (evalB x l):=by
 unfold Z7 evalB
 rw [Zd9 hx hl]
 simp only [ZfT]
 by_cases c:circB2 x = true ∧ len l = x.Inputs
 ·obtain ⟨c1, c2⟩ := c
  rw [Zgb (by simp [c1,c2]),Zga (by simp [c1,c2])]
  have happ:app? [true] l = some ([true] ++ l):=by
   unfold app?; rw [Zga (by simp; unfold room; omega)]
  rw [happ]
  simp only [ZfT]
  rw [Yb (I:=fun k s=>s = ((k:Int),outV' x l k)) (m:=x.Gates.length) (r:=outV' x l x.Gates.length) (fun k s hk hs=>?_) (fun s hs=>?_) x.Gates.length 0 _ (by omega) (by simp [outV']) fuel (lt_fuel hl)]
  ·rfl
  all_goals subst hs
  ·refine ⟨(((k + 1 : Nat) : Int), outV' x l (k + 1)), ?_, rfl⟩
   obtain ⟨b1,b2,b3,b4,b5,b6,b7⟩:=Zff c1 hk
   have hlen:=Ze5 (x:=x) (l:=l) (k:=k) (by omega)
   rw [Zc] at c2
   rw [Zd5 hk]
   simp only
   rw [Zga (by rw [Zc]; simp; omega),get?_nat,ZfV hk]
   simp only [ZfT]
   rw [Zce (by omega) b4 (by omega),Zce (by omega) b6 (by omega)]
   have happ2:∀ b,app? (outV' x l k) [b] = some (outV' x l k ++ [b]):=by
    intro b; unfold app?; rw [Zga (by simp; unfold room; omega)]
   unfold stepV
   rw [Zd (by omega) (by omega)]
   cases h1:litV (outV' x l k) x.Gates[k].A <;> simp [happ2]
  ·simp only
   rw [Zgb (by rw [Zc]; simp)]
 ·have hc:(circB2 x && (len l == x.Inputs)) = false:=by
   cases h1:circB2 x <;> simp_all
  rw [hc,Zga]
  ·rfl
  ·cases h1:circB2 x <;> simp_all
end Go.Proofs.Ytfkjefbonbinnaa.Cc
end
section
namespace Go.Proofs.Ytfkjefbonbinnaa.Cc
open Go.GL
variable {fuel:Nat} [FU fuel]
theorem iterN_upE0 {σt ρt:Type} {B:σt → Option (σt ⊕ ρt)} {I:Nat → σt → Prop} {m:Nat} {R:ρt → Prop} (hs:∀ k s,k < m → I k s → ∃ s',B s = some (.inl s') ∧ I (k + 1) s') (hf:∀ s,I m s → ∃ r,B s = some (.inr r) ∧ R r) :
  ∀ (d k:Nat) (s:σt),k + d = m → I k s → ∀ n,d < n → ∃ r,iterN B n s = some r ∧ R r
 | 0,k,s,hk,hi,n,hn=>by
  obtain ⟨n,rfl⟩ : ∃ j,n = j + 1:=⟨n - 1,by omega⟩
  obtain rfl:k = m:=by omega
  obtain ⟨r,h1,h2⟩:=hf s hi
  exact ⟨r,by unfold iterN; rw [h1],h2⟩
 | d + 1,k,s,hk,hi,n,hn=>by
  obtain ⟨n,rfl⟩ : ∃ j,n = j + 1:=⟨n - 1,by omega⟩
  obtain ⟨s',h1,h2⟩:=hs k s (by omega) hi
  obtain ⟨r,h3,h4⟩:=iterN_upE0 hs hf d (k + 1) s' (by omega) h2 n (by omega)
  exact ⟨r,by unfold iterN; rw [h1]; exact h3,h4⟩
structure CurOk (c:D.l01Cur):Prop where
 i0:0 ≤ c.i
 len:c.b.length ≤ 1048576
theorem band255 (x:Int):0 ≤ band x 255 ∧ band x 255 ≤ 255:=by
 unfold band
 have h:(BitVec.ofInt 64 x &&& BitVec.ofInt 64 255).toNat ≤ 255:=by
  rw [BitVec.toNat_and]; exact Nat.and_le_right
 rw [Zd (by omega) (by omega)]; omega
theorem Zfo {c:D.l01Cur} (h:CurOk c):∃ x i h',Yx c = some (x,⟨c.b,i,h'⟩) ∧ 0 ≤ x ∧ x ≤ 255 ∧ CurOk ⟨c.b,i,h'⟩:=by
 unfold Yx
 have hs:∀ (z:Int) (k:Nat),shr? z (k:Int) = some (z.fdiv (2 ^ min k 64)):=fun z k=>by unfold shr?; rw [Zgb (by omega)]; simp
 have h33:∀ z:Int,∃ y,shr? z 33 = some y:=fun z=>⟨_,hs z 33⟩
 have h45:∀ z:Int,∃ y,shr? z 45 = some y:=fun z=>⟨_,hs z 45⟩
 obtain ⟨y1,e1⟩:=h33 (w64 ((w64 (c.h * 6364136223846793005)) + 1442695040888963407))
 obtain ⟨y2,e2⟩:=h45 (w64 ((w64 (c.h * 6364136223846793005)) + 1442695040888963407))
 rw [e1,e2]
 simp only [ZfT]
 have h0:=h.i0
 have hl:=h.len
 by_cases hlt:c.i < (c.b.length:Int)
 ·rw [Zga (by rw [Zc]; simpa using hlt)]
  have hi:get? c.b c.i = some (c.b[c.i.toNat]'(by omega)):=by
   unfold get?; rw [Zga h0,ZfV]
  rw [hi]
  exact ⟨_,_,_,rfl,(band255 _).1,(band255 _).2,⟨by simp only; rw [Zd (by omega) (by omega)]; omega,hl⟩⟩
 ·rw [Zgb (by rw [Zc]; simpa using hlt)]
  exact ⟨_,_,_,rfl,(band255 _).1,(band255 _).2,⟨h0,hl⟩⟩
theorem XP {c:D.l01Cur} (h:CurOk c) {n:Int} (hn:0 < n):∃ x i h',Z9 c n = some (x,⟨c.b,i,h'⟩) ∧ 0 ≤ x ∧ x < n ∧ CurOk ⟨c.b,i,h'⟩:=by
 unfold Z9
 obtain ⟨x,i,h',e,x0,x1,ok⟩:=Zfo h
 rw [Zgb (by simp; omega),e]
 simp only [ZfT]
 have hr:rem? x n = some (x.tmod n):=by unfold rem?; rw [Zgb (by omega)]
 rw [hr]
 exact ⟨_,_,_,rfl,Int.tmod_nonneg _ x0,Int.tmod_lt_of_pos _ hn,ok⟩
theorem Zfq {c:D.l01Cur} (h:CurOk c):∃ x i h',Yw c 2 = some (x,⟨c.b,i,h'⟩) ∧ CurOk ⟨c.b,i,h'⟩:=by
 unfold Yw
 obtain ⟨x,i,h',e,_,_,ok⟩:=XP h (n:=2) (by decide)
 rw [e]
 exact ⟨_,_,_,rfl,ok⟩
theorem ZcK {c:D.l01Cur} (h:CurOk c) {k:D.Circuit} (hk:CircP k):∃ x i h',Z6 c k = some (x,⟨c.b,i,h'⟩) ∧ litN (lines k) x = true ∧ CurOk ⟨c.b,i,h'⟩:=by
 unfold Z6
 have hi:=hk.i0
 have hi1:=hk.i1
 have hg:=hk.len
 have hw:w64 ((w64 (k.Inputs + 1)) + (Go.GL.len k.Gates)) = lines k:=by
  rw [Zc,Zd (x:=k.Inputs + 1) (by omega) (by omega),Zd (by omega) (by omega)]; rfl
 have h0:=hk.lines0
 have h1:=hk.lines1
 rw [hw]
 obtain ⟨x,i,h',e,x0,x1,ok⟩:=XP h (n:=lines k) (by omega)
 rw [e]
 simp only [ZfT]
 obtain ⟨y,i2,h2,e2,ok2⟩:=Zfq ok
 rw [e2]
 simp only [ZfT]
 have hx:w64 (1 + x) = 1 + x:=Zd (by omega) (by omega)
 have hl:litN (lines k) (1 + x) = true:=litN_iff.2 (by unfold iab; rw [Zgb (by omega)]; omega)
 cases y
 ·exact ⟨_,_,_,rfl,by rw [hx]; exact hl,ok2⟩
 ·refine ⟨_, _, _, rfl, ?_, ok2⟩
  rw [hx,Zd (by omega) (by omega),Int.zero_sub,Zad]; exact hl
theorem Zfg (s:BS) (a b:Int):(andP s a b).2.1.Gates.length ≤ s.1.Gates.length + 1 ∧ (s.1.Gates.length < 360 → (andP s a b).2.2 = s.2):=by
 unfold andP
 split
 ·exact ⟨by simp only; omega,fun _=>rfl⟩
 ·split
  ·exact ⟨by simp only; omega,fun _=>rfl⟩
  ·split
   ·exact ⟨by simp only; omega,fun _=>rfl⟩
   ·split
    ·exact ⟨by simp only; omega,fun _=>rfl⟩
    ·split
     ·exact ⟨by simp only; omega,fun h=>by omega⟩
     ·exact ⟨by simp,fun _=>rfl⟩
theorem Zfx {code:List Byt} (hl:code.length ≤ 1048576) {n:Int} (h0:0 ≤ n):∃ i h,Y5 fuel code n = some ⟨code,i,h⟩ ∧ CurOk ⟨code,i,h⟩:=by
 have hnew:∃ h,YC fuel code = some ⟨code,0,h⟩:=by
  unfold YC
  have key:∃ r,iterN (fun (s1:Int × Int)=>
    if ((decide (s1.2 < (Go.GL.len code))) && (decide (s1.2 < 4000))) then
     (get? code s1.2).bind fun x1=>
     some (.inl ((band (w64 ((w64 ((w64 (s1.1 * 131)) + (w64 x1.n))) + 7)) 1073741823),(w64 (s1.2 + 1))))
    else
     some (.inr (s1.1))) fuel ((w64 (55127 + (Go.GL.len code))),0) = some r ∧ True:=by
   refine iterN_upE0 (I:=fun k s=>s.2 = (k:Int)) (m:=min code.length 4000) (fun k s hk hs=>?_) (fun s hs=>?_) (min code.length 4000) 0 _ (by omega) rfl fuel (lt_fuel (by omega))
   ·obtain ⟨z, y⟩ := s
    simp only at hs
    subst hs
    simp only
    rw [Zga (by rw [Zc]; simp; omega),get?_nat,ZfV (by omega)]
    exact ⟨_,rfl,by simp only; rw [Zd (by omega) (by omega)]; omega⟩
   ·obtain ⟨z, y⟩ := s
    simp only at hs
    subst hs
    simp only
    rw [Zgb (by rw [Zc]; simp; omega)]
    exact ⟨_,rfl,trivial⟩
  obtain ⟨r,e,-⟩:=key
  rw [e]
  exact ⟨r,rfl⟩
 obtain ⟨h,e⟩:=hnew
 unfold Y5
 rw [e]
 refine ⟨_,_,rfl,?_,hl⟩
 simp only
 unfold imin
 rw [Zc]
 split <;> omega
theorem Zfl {c:D.l01Cur} (h:CurOk c):∃ k i h',Yi fuel c = some (k,⟨c.b,i,h'⟩) ∧ CircP k ∧ 1 ≤ k.Inputs ∧ k.Inputs ≤ 6 ∧ k.Gates.length ≤ 7:=by
 unfold Yi
 obtain ⟨x1,i1,h1,e1,a1,b1,ok1⟩:=XP h (n:=6) (by decide)
 rw [e1]
 simp only [ZfT]
 have hw:w64 (1 + x1) = 1 + x1:=Zd (by omega) (by omega)
 have hn:YA (D.Circuit.mk (1 + x1) ([]:List D.Gate)) = some ⟨⟨1 + x1,[]⟩,false⟩:=by
  unfold YA app?; rw [Zga (by simp)]; rfl
 rw [hw,hn]
 simp only [ZfT]
 obtain ⟨x3,i3,h3,e3,a3,b3,ok3⟩:=XP ok1 (n:=8) (by decide)
 have e3':Z9 (D.l01Cur.mk c.b i1 h1) 8 = some (x3,⟨c.b,i3,h3⟩):=e3
 rw [e3']
 simp only [ZfT]
 have key:∃ r,iterN (fun (s1:Int × Int × Bool × (List D.Gate) × Int × Int)=>
  if (decide (s1.1 > 0)) then
   (Z6 (D.l01Cur.mk c.b s1.2.2.2.2.1 s1.2.2.2.2.2) (D.Circuit.mk s1.2.1 s1.2.2.2.1)).bind fun x4=>
   (Z6 (D.l01Cur.mk c.b x4.2.i x4.2.h) (D.Circuit.mk s1.2.1 s1.2.2.2.1)).bind fun x5=>
   (Zx fuel (D.l04Net.mk (D.Circuit.mk s1.2.1 s1.2.2.2.1) s1.2.2.1) x4.1 x5.1).bind fun x6=>
   some (.inl ((w64 (s1.1 - 1)),x6.2.c.Inputs,x6.2.full,x6.2.c.Gates,x5.2.i,x5.2.h))
  else
   some (.inr (s1.2.1,s1.2.2.1,s1.2.2.2.1,s1.2.2.2.2.1,s1.2.2.2.2.2))) fuel (x3,1 + x1,false,([]:List D.Gate),i3,h3) = some r ∧ CircP ⟨r.1,r.2.2.1⟩ ∧ r.1 = 1 + x1 ∧ r.2.2.1.length ≤ 7:=by
  refine iterN_upE0 (I:=fun j t=>∃ (i h:Int) (s:BS),t = (x3 - (j:Int),s.1.Inputs,s.2,s.1.Gates,i,h) ∧ CurOk ⟨c.b,i,h⟩ ∧ CircP s.1 ∧ s.1.Inputs = 1 + x1 ∧ s.1.Gates.length ≤ j) (m:=x3.toNat) (fun j t hj ht=>?_) (fun t ht=>?_) x3.toNat 0 _ (by omega) ⟨i3,h3,(⟨1 + x1,[]⟩,false),by simp,ok3,circP_iff.1 (by unfold circB2; simp; omega),rfl,by simp⟩ fuel (lt_fuel (by omega))
  ·obtain ⟨i, hh, s, rfl, ok, hp, hin, hlen⟩ := ht
   obtain ⟨u,i4,h4,e4,l4,ok4⟩:=ZcK ok hp
   obtain ⟨v,i5,h5,e5,l5,ok5⟩:=ZcK ok4 hp
   have hc:=Zfg s u v
   have g:=Zeq hp l4 l5
   have e6:=ZeF (fuel:=fuel) hp l4 l5
   simp only
   rw [Zga (by simp; omega)]
   have e4':Z6 (D.l01Cur.mk c.b i hh) (D.Circuit.mk s.1.Inputs s.1.Gates) = some (u,⟨c.b,i4,h4⟩):=e4
   rw [e4']
   simp only [ZfT]
   have e5':Z6 (D.l01Cur.mk c.b i4 h4) (D.Circuit.mk s.1.Inputs s.1.Gates) = some (v,⟨c.b,i5,h5⟩):=e5
   rw [e5']
   simp only [ZfT]
   have e6':Zx fuel (D.l04Net.mk (D.Circuit.mk s.1.Inputs s.1.Gates) s.2) u v = some ((andP s u v).1,net (andP s u v).2):=e6
   rw [e6']
   simp only [ZfT]
   refine ⟨_,rfl,i5,h5,(andP s u v).2,?_,ok5,g.circ,?_,?_⟩
   ·rw [Zd (by omega) (by omega)]
    simp only [Prod.mk.injEq,and_true]
    omega
   ·rw [g.grow.1]; exact hin
   ·have:=hc.1; omega
  ·obtain ⟨i, hh, s, rfl, ok, hp, hin, hlen⟩ := ht
   simp only
   rw [Zgb (by simp; omega)]
   exact ⟨_,rfl,hp,hin,by simp only; omega⟩
 obtain ⟨r,e,hp,hin,hlen⟩:=key
 rw [e]
 refine ⟨_,_,_,rfl,hp,?_,?_,hlen⟩ <;> (simp only; omega)
theorem giveC_ok {code:List Byt} (hl:code.length ≤ 1048576) {n:Int} (h0:0 ≤ n):∃ k,ZM fuel code n = some k ∧ CircP k ∧ 1 ≤ k.Inputs ∧ k.Inputs ≤ 6 ∧ k.Gates.length ≤ 7:=by
 unfold ZM
 obtain ⟨i,h,e,ok⟩:=Zfx (fuel:=fuel) hl h0
 rw [e]
 simp only [ZfT]
 obtain ⟨k,i2,h2,e2,r⟩:=Zfl (fuel:=fuel) ok
 have e2':Yi fuel (D.l01Cur.mk code i h) = some (k,⟨code,i2,h2⟩):=e2
 rw [e2']
 exact ⟨k,rfl,r⟩
theorem giveL_ok {code:List Byt} (hl:code.length ≤ 1048576) {n:Int} (h0:0 ≤ n) {k:D.Circuit} (hk:CircP k):∃ x,Y0 fuel code n k = some x ∧ litN (lines k) x = true:=by
 unfold Y0
 obtain ⟨i,h,e,ok⟩:=Zfx (fuel:=fuel) hl h0
 rw [e]
 simp only [ZfT]
 obtain ⟨x,i2,h2,e2,r,_⟩:=ZcK ok hk
 have e2':Z6 (D.l01Cur.mk code i h) k = some (x,⟨code,i2,h2⟩):=e2
 rw [e2']
 exact ⟨x,rfl,r⟩
end Go.Proofs.Ytfkjefbonbinnaa.Cc
end
section
namespace Go.Proofs.Ytfkjefbonbinnaa.Cc
open Go.GL
variable {fuel:Nat} [FU fuel]
def b2i (b:Bool):Int:=cond b 1 0
theorem word_one {E:List Bool} {q:Int} (hE:E.length ≤ 1000) (hq:litN (E.length:Int) q = true):Yg fuel E [q] = some (b2i (litV E q)):=by
 unfold Yg
 obtain ⟨h1,h2⟩:=litN_iff.1 hq
 have hab:cond (decide (q < 0)) (w64 (0 - q)) q = iab q:=by
  unfold iab at *
  by_cases c:q < 0
  ·rw [Zga c] at *
   rw [decide_eq_true c,cond_true,Zd (by omega) (by omega)]; omega
  ·rw [Zgb c] at *
   rw [decide_eq_false c,cond_false]
 obtain ⟨v,hv,hl⟩:=Zde h1 h2
 have key:iterN (fun (s1:Int × Int)=>
  if (decide (s1.2 < (len [q]))) then
   (get? [q] s1.2).bind fun x1=>
   if ((decide ((cond (decide (x1 < 0)) (w64 (0 - x1)) x1) < 1)) || (decide ((cond (decide (x1 < 0)) (w64 (0 - x1)) x1) > (len E)))) then
    some (.inr (.inr (-1)))
   else
    (get? E (w64 ((cond (decide (x1 < 0)) (w64 (0 - x1)) x1) - 1))).bind fun x2=>
    if (x2 == (decide (x1 > 0))) then
     (shl? 1 s1.2).bind fun x3=>
     some (.inl ((w64 (s1.1 + x3)),(w64 (s1.2 + 1))))
    else
     some (.inl (s1.1,(w64 (s1.2 + 1))))
  else
   some (.inr (.inl (s1.1)))) fuel (0,0) = some (.inl (b2i (litV E q)):Int ⊕ Int):=by
  refine Yb (I:=fun k s=>s = ((if k = 0 then 0 else b2i (litV E q)),(k:Int))) (m:=1) (fun k s hk hs=>?_) (fun s hs=>?_) 1 0 (0,0) (by omega) rfl fuel (lt_fuel (by omega))
  ·subst hs
   obtain rfl:k = 0:=by omega
   refine ⟨_,?_,rfl⟩
   simp only
   have hg:get? [q] ((0:Nat):Int) = some q:=rfl
   rw [Zga (by rw [Zc]; simp),hg]
   simp only [ZfT]
   rw [hab,Zgb (by rw [Zc]; simp; omega),Zd (by omega) (by omega),show iab q - 1 = (((iab q - 1).toNat:Nat):Int) by omega,get?_nat,hv]
   simp only [ZfT]
   have hs1:shl? 1 ((0:Nat):Int) = some 1:=by decide
   rw [hs1,hl]
   unfold iab at h1
   by_cases c:q < 0
   ·have e : decide (q > 0) = false := by simp; omega
    rw [e,Zga c]
    cases v <;> rfl
   ·rw [Zgb c] at h1
    have e:decide (q > 0) = true:=by simp; omega
    rw [e,Zgb c]
    cases v <;> rfl
  ·subst hs
   simp only
   rw [Zgb (by rw [Zc]; simp)]
   rfl
 rw [key]
 rfl
end Go.Proofs.Ytfkjefbonbinnaa.Cc
end
section
namespace Go.Proofs.Ytfkjefbonbinnaa
open Go.GL
def fuel:Nat:=4194400
theorem lt_fuel {n:Nat} (h:n ≤ 1048576):n < fuel:=by unfold fuel; omega
theorem Zu {σt ρt:Type} {B:σt → Option (σt ⊕ ρt)} {s:σt} {r:ρt} {n:Nat} (h:B s = some (.inr r)) (hn:0 < n):iterN B n s = some r:=by
 obtain ⟨m,rfl⟩ : ∃ m,n = m + 1:=⟨n - 1,by omega⟩
 rw [iterN,h]
theorem Zbt {S ρ α σ:Type} {l:List α} {B:S → Option (S ⊕ ρ)} (enc:Nat → σ → S) (I:List α → σ → Prop) (R:ρ → Prop)
  (hs:∀ k x xs a,k < l.length → l[k]? = some x → l.length = k + (x :: xs).length → I (x :: xs) a → (∃ a',B (enc k a) = some (.inl (enc (k + 1) a')) ∧ I xs a') ∨ ∃ r,B (enc k a) = some (.inr r) ∧ R r)
  (he:∀ a,I [] a → ∃ r,B (enc l.length a) = some (.inr r) ∧ R r) :
  ∀ (ys:List α) (k:Nat) (a:σ) (n:Nat),l.drop k = ys → k ≤ l.length → I ys a → ys.length < n → ∃ r,iterN B n (enc k a) = some r ∧ R r
 | [],k,a,n,hd,hk,hI,hn=>by
  obtain ⟨n,rfl⟩ : ∃ j,n = j + 1:=⟨n - 1,by omega⟩
  have:k = l.length:=by
   have:=congrArg List.length hd
   simp at this; omega
  subst this
  obtain ⟨r,h1,h2⟩:=he a hI
  exact ⟨r,by unfold iterN; rw [h1],h2⟩
 | x :: xs,k,a,n,hd,hk,hI,hn=>by
  obtain ⟨n,rfl⟩ : ∃ j,n = j + 1:=⟨n - 1,by omega⟩
  have hl:l.length = k + (x :: xs).length:=by
   have:=congrArg List.length hd
   simp at this ⊢; omega
  have hk':k < l.length:=by simp at hl; omega
  have hx:l[k]? = some x:=by
   have h0:(l.drop k)[0]? = some x:=by rw [hd]; rfl
   rw [Zhf] at h0; simpa using h0
  rcases hs k x xs a hk' hx hl hI with ⟨a',h1,h2⟩ | ⟨r,h1,h2⟩
  ·obtain ⟨r, g1, g2⟩ := Zbt enc I R hs he xs (k + 1) a' n (by rw [← List.drop_drop, hd]; rfl) (by omega) h2 (by simp at hn; omega)
   exact ⟨r,by unfold iterN; rw [h1]; exact g1,g2⟩
  ·exact ⟨r,by unfold iterN; rw [h1],h2⟩
theorem Xt {S ρ α σ:Type} {l:List α} {B:S → Option (S ⊕ ρ)} (enc:Nat → σ → S) (I:List α → σ → Prop) (R:ρ → Prop)
  (hs:∀ k x xs a,k < l.length → l[k]? = some x → l.length = k + (x :: xs).length → I (x :: xs) a → (∃ a',B (enc k a) = some (.inl (enc (k + 1) a')) ∧ I xs a') ∨ ∃ r,B (enc k a) = some (.inr r) ∧ R r)
  (he:∀ a,I [] a → ∃ r,B (enc l.length a) = some (.inr r) ∧ R r) {a:σ} {n:Nat} (hI:I l a) (hn:l.length < n):∃ r,iterN B n (enc 0 a) = some r ∧ R r:=
 Zbt enc I R hs he l 0 a n rfl (ZgW _) hI hn
end Go.Proofs.Ytfkjefbonbinnaa
end
section
namespace Go.Proofs.Ytfkjefbonbinnaa.Sv
open Go.GL
set_option linter.unusedSimpArgs false
def lv (a:List Int) (x:Int):Int:=if x < 0 then -(a.getD x.natAbs 0) else a.getD x.natAbs 0
def isL (m:Nat) (x:Int):Prop:=x ≠ 0 ∧ x.natAbs ≤ m
structure Asg (m:Nat) (a:List Int):Prop where
 len:a.length = m + 1
 val:∀ i,a.getD i 0 = -1 ∨ a.getD i 0 = 0 ∨ a.getD i 0 = 1
 nul:a.getD 0 0 = 0
structure ClM (m:Nat) (c:List Int):Prop where
 lit:∀ x ∈ c,isL m x
 dif:c.Pairwise fun x y=>x.natAbs ≠ y.natAbs
def stA (a:List Int) (l:Int):List Int:=a.set l.natAbs (if l < 0 then -1 else 1)
theorem Yq {a:List Int} {x:Int} (h:x ≠ 0):lv a (-x) = - lv a x:=by
 unfold lv
 rw [ZhI]
 by_cases c:x < 0
 ·rw [Zgb (by omega),Zga c]; omega
 ·rw [Zga (by omega),Zgb c]
theorem Zfm {m:Nat} {a:List Int} (h:Asg m a) (x:Int):lv a x = -1 ∨ lv a x = 0 ∨ lv a x = 1:=by
 unfold lv
 have:=h.val x.natAbs
 split <;> omega
theorem ZaU {a:List Int} {i j:Nat} {v:Int} (h:i < a.length):(a.set i v).getD j 0 = if j = i then v else a.getD j 0:=by
 rw [ZfW,Zhc,ZfW]
 by_cases e:i = j
 ·subst e; rw [Zga rfl,Zga h,Zga rfl]; rfl
 ·rw [Zgb e,Zgb (Ne.symm e)]
theorem YM {m:Nat} {a:List Int} {l x:Int} (ha:a.length = m + 1) (hl:isL m l) (hx:x ≠ 0):lv (stA a l) x = if x = l then 1 else if x = -l then -1 else lv a x:=by
 obtain ⟨l0,l1⟩:=hl
 unfold lv stA
 rw [ZaU (by omega)]
 by_cases e:x.natAbs = l.natAbs
 ·rw [Zga e]
  by_cases e1:x = l
  ·subst e1
   rw [Zga rfl]
   by_cases c:x < 0
   ·rw [Zga c,Zga c]; omega
   ·rw [Zgb c,Zgb c]
  ·have e2 : x = -l := by omega
   rw [Zgb e1,Zga e2]
   by_cases c:x < 0
   ·rw [Zga c,Zgb (by omega)]
   ·rw [Zgb c,Zga (by omega)]
 ·rw [Zgb e,Zgb (show ¬ x = l by intro h; exact e (by rw [h])),Zgb (show ¬ x = -l by intro h; exact e (by rw [h,ZhI]))]
theorem Zaj {m:Nat} {a:List Int} {l:Int} (h:Asg m a) (hl:isL m l):Asg m (stA a l):=by
 obtain ⟨l0,l1⟩:=hl
 have h1:=h.len
 refine ⟨by unfold stA; rw [ZhV]; exact h1,fun i=>?_,?_⟩
 ·unfold stA
  rw [ZaU (by omega)]
  split
  ·split <;> omega
  ·exact h.val i
 ·unfold stA
  rw [ZaU (by omega),Zgb (by omega)]; exact h.nul
theorem Zfi {m:Nat} {a b:List Int} (ha:Asg m a) (hb:Asg m b) (h:∀ x,isL m x → (lv a x = 1 ↔ lv b x = 1)):a = b:=by
 refine List.ext_getElem (ha.len.trans hb.len.symm) fun i h1 h2=>?_
 have g1:a.getD i 0 = a[i]:=by rw [ZfW,ZfV h1]; rfl
 have g2:b.getD i 0 = b[i]:=by rw [ZfW,ZfV h2]; rfl
 rw [← g1,← g2]
 by_cases hi:i = 0
 ·subst hi; rw [ha.nul,hb.nul]
 have hm:i ≤ m:=by have:=ha.len; omega
 have p:=h (i:Int) ⟨by omega,by omega⟩
 have q:=h (-(i:Int)) ⟨by omega,by omega⟩
 rw [Yq (by omega),Yq (by omega)] at q
 have e:∀ c:List Int,lv c (i:Int) = c.getD i 0:=fun c=>by unfold lv; rw [Zgb (by omega)]; simp
 rw [e,e] at p q
 have va:=ha.val i
 have vb:=hb.val i
 omega
inductive Der (cs:List (List Int)) (S:Int → Prop):Int → Prop
 | base {x:Int}:S x → Der cs S x
 | unit {c:List Int} {x:Int}:c ∈ cs → x ∈ c → (∀ y ∈ c,y ≠ x → Der cs S (-y)) → Der cs S x
def good (a:List Int) (c:List Int):Prop:=(∃ x ∈ c,lv a x = 1) ∨ ∃ x ∈ c,∃ y ∈ c,x ≠ y ∧ lv a x = 0 ∧ lv a y = 0
structure Okc (m:Nat) (cs:List (List Int)) (S:Int → Prop) (a:List Int):Prop where
 asg:Asg m a
 ext:∀ x,S x → lv a x = 1
 snd:∀ x,isL m x → lv a x = 1 → Der cs S x
 cl:∀ c ∈ cs,good a c
def Bad (cs:List (List Int)) (S:Int → Prop):Prop:=∃ c ∈ cs,∀ y ∈ c,Der cs S (-y)
section
variable {m:Nat} {cs:List (List Int)} {S:Int → Prop} {a b:List Int}
theorem Zc2 (hcs:∀ c ∈ cs,ClM m c) (h:Okc m cs S a) {x:Int} (hd:Der cs S x):lv a x = 1:=by
 induction hd with
 | base hx=>exact h.ext _ hx
 | @unit c x hc hx _ ih=>
  have ih':∀ y ∈ c,y ≠ x → lv a y = -1:=fun y hy hne=>by
   have:=ih y hy hne
   rw [Yq ((hcs c hc).lit y hy).1] at this
   omega
  rcases h.cl c hc with ⟨z,hz,hz1⟩ | ⟨y,hy,z,hz,hne,hy0,hz0⟩
  ·by_cases e : z = x
   ·subst e; exact hz1
   ·have:=ih' z hz e; omega
  ·by_cases e : y = x
   ·have:=ih' z hz (fun e'=>hne (e.trans e'.symm)); omega
   ·have:=ih' y hy e; omega
theorem Zcf (hcs:∀ c ∈ cs,ClM m c) (h:Okc m cs S a):¬ Bad cs S:=fun ⟨c,hc,hb⟩=>by
 have ih:∀ y ∈ c,lv a y = -1:=fun y hy=>by
  have:=Zc2 hcs h (hb y hy)
  rw [Yq ((hcs c hc).lit y hy).1] at this
  omega
 rcases h.cl c hc with ⟨z,hz,hz1⟩ | ⟨y,hy,z,hz,hne,hy0,hz0⟩
 ·have:=ih z hz; omega
 ·have:=ih y hy; omega
theorem ZeK (hcs:∀ c ∈ cs,ClM m c) (h:Okc m cs S a) (h':Okc m cs S b):a = b:=
 Zfi h.asg h'.asg fun x hx=>⟨fun e=>Zc2 hcs h' (h.snd x hx e),fun e=>Zc2 hcs h (h'.snd x hx e)⟩
def Res (m:Nat) (cs:List (List Int)) (S:Int → Prop):Option (List Int) → Prop
 | some a=>Okc m cs S a
 | none=>Bad cs S
def free (a:List Int) (c:List Int):List Int:=c.filter fun x=>lv a x == 0
theorem Xu {c:List Int} {x:Int}:x ∈ free a c ↔ x ∈ c ∧ lv a x = 0:=by unfold free; rw [Zgl]; simp
theorem ZbP {c:List Int} (hc:ClM m c) (h:2 ≤ (free a c).length):good a c:=by
 have hp:(free a c).Pairwise fun x y=>x.natAbs ≠ y.natAbs:=hc.dif.filter _
 match hf:free a c,h with
 | x :: y :: l,_=>
  rw [hf] at hp
  have hx:x ∈ free a c:=by rw [hf]; simp
  have hy:y ∈ free a c:=by rw [hf]; simp
  rw [Xu] at hx hy
  refine .inr ⟨x,hx.1,y,hy.1,fun e=>?_,hx.2,hy.2⟩
  rw [List.pairwise_cons] at hp
  exact hp.1 y (by simp) (by rw [e])
def Snd (m:Nat) (cs:List (List Int)) (S:Int → Prop) (a:List Int):Prop:=∀ x,isL m x → lv a x = 1 → Der cs S x
theorem ZcU (hA:Asg m a) (hs:Snd m cs S a) {c:List Int} (hc:ClM m c) {y:Int} (hy:y ∈ c) (h1:lv a y ≠ 1) (h0:lv a y ≠ 0):Der cs S (-y):=by
 have hl:=hc.lit y hy
 have:=Zfm hA y
 exact hs (-y) ⟨by have:=hl.1; omega,by rw [ZhI]; exact hl.2⟩ (by rw [Yq hl.1]; omega)
theorem Zcb (hA:Asg m a) (hs:Snd m cs S a) {c:List Int} (hcs:c ∈ cs) (hc:ClM m c) (hn:∀ x ∈ c,lv a x ≠ 1) (hf:free a c = []):Bad cs S :=
 ⟨c, hcs, fun y hy => ZcU hA hs hc hy (hn y hy) fun h => by
  have:y ∈ free a c:=Xu.2 ⟨hy,h⟩
  rw [hf] at this; cases this⟩
theorem Zez (hA:Asg m a) (hs:Snd m cs S a) {c:List Int} (hcs:c ∈ cs) (hc:ClM m c) (hn:∀ x ∈ c,lv a x ≠ 1) {l:Int} (hf:free a c = [l]):isL m l ∧ l ∈ c ∧ lv a l = 0 ∧ Asg m (stA a l) ∧ Snd m cs S (stA a l):=by
 have hl:l ∈ free a c:=by rw [hf]; simp
 rw [Xu] at hl
 have hL:=hc.lit l hl.1
 refine ⟨hL,hl.1,hl.2,Zaj hA hL,fun x hx h=>?_⟩
 rw [YM hA.len hL hx.1] at h
 by_cases e:x = l
 ·subst e
  refine .unit hcs hl.1 fun y hy hne=>ZcU hA hs hc hy (hn y hy) fun h0=>?_
  have:y ∈ free a c:=Xu.2 ⟨hy,h0⟩
  rw [hf,Zgo] at this
  exact hne this
 ·rw [Zgb e] at h
  split at h
  ·omega
  ·exact hs x hx h
theorem XW (hA:Asg m a) {l:Int} (hl:isL m l) (h0:lv a l = 0) {x:Int} (hx:x ≠ 0) (h:lv a x ≠ 0):lv (stA a l) x = lv a x:=by
 rw [YM hA.len hl hx,Zgb (show ¬ x = l from fun e=>h (e ▸ h0)),Zgb (show ¬ x = -l from fun e=>h (by rw [e,Yq hl.1,h0]; rfl))]
theorem ZbW (hA:Asg m a) {l:Int} (hl:isL m l) (h0:lv a l = 0) {c:List Int} (hc:ClM m c) (h:good a c):good (stA a l) c ∨ -l ∈ c:=by
 by_cases hn : -l ∈ c
 ·exact .inr hn
 refine .inl ?_
 rcases h with ⟨x,hx,h1⟩ | ⟨x,hx,y,hy,hne,hx0,hy0⟩
 ·exact .inl ⟨x,hx,by rw [XW hA hl h0 (hc.lit x hx).1 (by omega)]; exact h1⟩
 ·by_cases e : l ∈ c
  ·exact .inl ⟨l,e,by rw [YM hA.len hl hl.1,Zga rfl]⟩
  ·have k:∀ z ∈ c,lv a z = 0 → lv (stA a l) z = 0:=fun z hz hz0=>by
    rw [YM hA.len hl (hc.lit z hz).1,Zgb (show ¬ z = l from fun e'=>e (e' ▸ hz)),Zgb (show ¬ z = -l from fun e'=>hn (e' ▸ hz))]; exact hz0
   exact .inr ⟨x,hx,y,hy,hne,k x hx hx0,k y hy hy0⟩
end
set_option maxRecDepth 100000
structure FmP (f:D.Formula) (m:Nat):Prop where
 vars:f.Vars = m
 small:m ≤ 400
 num:f.Clauses.length ≤ 1600
 cl:∀ c ∈ f.Clauses,ClM m c ∧ c.length ≤ 1000
def Sv (m:Nat) (v:List Int) (x:Int):Prop:=isL m x ∧ lv v x = 1
def zer (v:List Int):Nat:=v.count 0
theorem Xf {σt ρt:Type} {B:σt → Option (σt ⊕ ρt)} {s s':σt} {n:Nat} (h:B s = some (.inl s')):iterN B (n + 1) s = iterN B n s':=by
 rw [iterN,h]
section
variable {m:Nat} {a:List Int} {x:Int}
theorem Yf {i:Nat} (h:i < a.length):a[i]? = some (a.getD i 0):=by
 rw [ZfW,ZfV h]; rfl
theorem X3 (hA:Asg m a) (hl:isL m x) (h0:lv a x = 0):zer (stA a x) + 1 = zer a:=by
 obtain ⟨l0,l1⟩:=hl
 have hi:x.natAbs < a.length:=by have:=hA.len; omega
 have hg:a[x.natAbs] = 0:=by
  have h1:=Yf hi
  rw [ZfV hi] at h1
  have h2:=Option.some.inj h1
  unfold lv at h0
  rw [h2]
  split at h0 <;> omega
 have hpos:0 < a.count 0:=Zhh.2 (hg ▸ Zg7 hi)
 unfold zer stA
 rw [List.count_set hi,hg]
 have hne:((if x < 0 then (-1:Int) else 1) == 0) = false:=by split <;> decide
 simp only [Zii,Zg6,hne,ZfY,Zgv]
 omega
theorem Zdi (hm:m ≤ 400) (hl:isL m x):(if (decide (x < 0)) = true then some (w64 (0 - x)) else some x) = some (x.natAbs:Int):=by
 obtain ⟨l0,l1⟩:=hl
 by_cases h:x < 0
 ·rw [Zga (by simpa using h),Zd (by omega) (by omega)]; congr 1; omega
 ·rw [Zgb (by simpa using h)]; congr 1; omega
theorem YE (hm:m ≤ 400) (hl:isL m x):Zt x = some (x.natAbs:Int):=Zdi hm hl
theorem ZeA (hA:Asg m a) (hl:isL m x):get? a (x.natAbs:Int) = some (a.getD x.natAbs 0):=by
 rw [get?_nat]
 exact Yf (by have:=hA.len; have:=hl.2; omega)
def lst (l:List Int):Int:=l.getLastD 0
theorem Zch (c d:List Int):free a (c ++ d) = free a c ++ free a d:=by unfold free; rw [List.filter_append]
theorem Zfu (l:List Int) (y:Int):lst (l ++ [y]) = y:=by unfold lst; simp
theorem ZeZ (hA:Asg m a) (hl:isL m x):set? a (x.natAbs:Int) (if x < 0 then -1 else 1) = some (stA a x):=by
 unfold set? stA
 rw [Zga ⟨by omega,by have:=hA.len; have:=hl.2; simp; omega⟩]; simp
end
section
variable {f:D.Formula} {m:Nat} {S:Int → Prop}
structure Way (m:Nat) (cs:List (List Int)) (S:Int → Prop) (a:List Int):Prop where
 asg:Asg m a
 ext:∀ x,S x → lv a x = 1
 snd:Snd m cs S a
theorem Way.unit {cs:List (List Int)} {a:List Int} (h:Way m cs S a) (hS:∀ x,S x → isL m x) {c:List Int} (hc:c ∈ cs) (hm:ClM m c) (hn:∀ x ∈ c,lv a x ≠ 1) {l:Int} (hf:free a c = [l]):Way m cs S (stA a l) ∧ isL m l ∧ lv a l = 0 ∧ l ∈ c:=by
 obtain ⟨h1,h2,h3,h4,h5⟩:=Zez h.asg h.snd hc hm hn hf
 refine ⟨⟨h4,fun x hx=>?_,h5⟩,h1,h3,h2⟩
 rw [XW h.asg h1 h3 (hS x hx).1 (by rw [h.ext x hx]; decide)]
 exact h.ext x hx
theorem Zac {a:List Int} {c:List Int}:(c.any fun x=>lv a x == 1) = true ↔ ∃ x ∈ c,lv a x = 1:=by
 rw [Zij]; simp
theorem ZeH {a:List Int} (h:Asg m a):zer a ≤ m + 1:=by
 rw [← h.len]; exact ZhO
end
section
variable {f:D.Formula} {m:Nat} {S:Int → Prop}
theorem impl_var {x:Int} (hm:m ≤ 400) (hl:isL m x):Zp x = some (x.natAbs:Int):=Zdi hm hl
theorem ZdW {x:Int} (hm:m ≤ 400) (hl:isL m x):(cond (decide (x < 0)) (w64 (0 - x)) x) = (x.natAbs:Int):=by
 obtain ⟨l0,l1⟩:=hl
 by_cases h:x < 0
 ·rw [decide_eq_true h,cond_true,Zd (by omega) (by omega)]; omega
 ·rw [decide_eq_false h,cond_false]; omega
theorem Zef {x:Int}:(cond (decide (x < 0)) (-1) 1:Int) = if x < 0 then -1 else 1:=by
 by_cases h:x < 0
 ·rw [decide_eq_true h,cond_true,Zga h]
 ·rw [decide_eq_false h,cond_false,Zgb h]
theorem ZeR {α:Type} {l:List α} {x:α} (h:l.length ≤ 1000000):app? l [x] = some (l ++ [x]):=by
 unfold app? room; rw [Zga (by simp; omega)]
theorem ZbY {a q:List Int} {l:Int} (hA:Asg m a) (hm:m ≤ 400) (hl:isL m l) (h0:lv a l = 0) (hq:q.length ≤ 1000000):Zk ⟨a,q⟩ l = some (true,⟨stA a l,q ++ [l]⟩):=by
 have hg:a.getD l.natAbs 0 = 0:=by unfold lv at h0; split at h0 <;> omega
 unfold Zk
 rw [ZdW hm hl,ZeA hA hl,hg]
 simp only [ZfT]
 rw [Zgb (by decide),Zef,ZeZ hA hl]
 simp only [ZfT]
 rw [ZeR hq]; rfl
theorem Zdr {a q:List Int} (hA:Asg m a) (hm:m ≤ 400) {c:List Int} (hc:∀ x ∈ c,isL m x) (hlen:c.length ≤ 1000) (hq:q.length ≤ 1000000) {n:Nat} (hn:2000 ≤ n) :
    ((c.any fun x=>lv a x == 1) = true ∧ Zf n ⟨a,q⟩ c = some (true,⟨a,q⟩)) ∨
    ((c.any fun x=>lv a x == 1) = false ∧ ((free a c = [] ∧ Zf n ⟨a,q⟩ c = some (false,⟨a,q⟩)) ∨ (∃ l,free a c = [l] ∧ Zf n ⟨a,q⟩ c = some (true,⟨stA a l,q ++ [l]⟩)) ∨ (2 ≤ (free a c).length ∧ Zf n ⟨a,q⟩ c = some (true,⟨a,q⟩)))):=by
  obtain ⟨r,g1,g2⟩:=Xt (l:=c) (n:=n) (σ:=Int × Int) (ρ:=(Int × Int) ⊕ (Bool × D.assignment)) (B:=fun (s1:Int × Int × Int)=>
  if (decide (s1.2.2 < (len c))) then
   (get? c s1.2.2).bind fun x1=>
   (Zp x1).bind fun x2=>
   (get? a x2).bind fun x3=>
   if (x3 == 0) then
    some (.inl ((w64 (s1.1 + 1)),x1,(w64 (s1.2.2 + 1))))
   else
    if ((decide (x3 > 0)) == (decide (x1 > 0))) then
     some (.inr (.inr (true,(⟨a,q⟩ : D.assignment))))
    else
     some (.inl (s1.1,s1.2.1,(w64 (s1.2.2 + 1))))
  else
   some (.inr (.inl (s1.1,s1.2.1)))) (fun k z=>(z.1,z.2,(k:Int)))
    (fun ys z=>∃ pre,pre ++ ys = c ∧ z = (((free a pre).length:Int),lst (free a pre)) ∧ (pre.any fun x=>lv a x == 1) = false)
    (fun r=>(r = .inl (((free a c).length:Int),lst (free a c)) ∧ (c.any fun x=>lv a x == 1) = false) ∨ (r = .inr (true,⟨a,q⟩) ∧ (c.any fun x=>lv a x == 1) = true))
    (fun k x xs z hk hx hl ⟨pre,h1,h2,h3⟩=>by
      have hd:decide ((k:Int) < len c) = true:=by rw [Zc]; simp; omega
      have hlx:=hc x (Zgt hx)
      have hfl:(free a pre).length ≤ c.length:=by
        rw [← h1]
        exact ZgM (List.length_filter_le _ _) (by simp)
      have hk1:w64 ((k:Int) + 1) = ((k + 1:Nat):Int):=by rw [Zd (by omega) (by omega)]; rfl
      have hv:=hA.val x.natAbs
      have hx0:=hlx.1
      subst h2
      simp only [hd,Zg6,get?_nat,hx,ZfT]
      rw [impl_var hm hlx]
      simp only [ZfT]
      rw [ZeA hA hlx]
      simp only [ZfT]
      by_cases h0:a.getD x.natAbs 0 = 0
      · have hl0 : lv a x = 0 := by unfold lv; rw [h0]; split <;> rfl
        have hfr:free a (pre ++ [x]) = free a pre ++ [x]:=by
          rw [Zch]; congr 1; unfold free; simp [hl0]
        refine .inl ⟨(((free a (pre ++ [x])).length:Int),lst (free a (pre ++ [x]))),?_,pre ++ [x],by rw [Zg2]; exact h1,rfl,?_⟩
        · rw [Zga (by simpa using h0),hk1,hfr,Zfu,Zd (by omega) (by omega)]; simp
        · rw [List.any_append,h3]; simp [hl0]
      · have hl0 : lv a x ≠ 0 := fun e => h0 (by unfold lv at e; split at e <;> omega)
        rw [Zgb (by simpa using h0)]
        by_cases h4:lv a x = 1
        · refine .inr ⟨_, ?_, .inr ⟨rfl, Zac.2 ⟨x, Zgt hx, h4⟩⟩⟩
          rw [Zga]
          unfold lv at h4
          by_cases hneg:x < 0
          · rw [Zga hneg] at h4
            have e1:a.getD x.natAbs 0 = -1:=by omega
            rw [e1,decide_eq_false (show ¬ x > 0 by omega)]; decide
          · rw [Zgb hneg] at h4
            rw [h4,decide_eq_true (show x > 0 by omega)]; decide
        · have hfr:free a (pre ++ [x]) = free a pre:=by
            rw [Zch]
            have:free a [x] = []:=by unfold free; simp [hl0]
            rw [this,ZgD]
          refine .inl ⟨(((free a (pre ++ [x])).length:Int),lst (free a (pre ++ [x]))),?_,pre ++ [x],by rw [Zg2]; exact h1,rfl,?_⟩
          · rw [Zgb, hk1, hfr]
            unfold lv at h4
            by_cases hneg:x < 0
            · rw [Zga hneg] at h4
              have e1:a.getD x.natAbs 0 = 1:=by omega
              rw [e1,decide_eq_false (show ¬ x > 0 by omega)]; decide
            · rw [Zgb hneg] at h4
              have e1:a.getD x.natAbs 0 = -1:=by omega
              rw [e1,decide_eq_true (show x > 0 by omega)]; decide
          · rw [List.any_append,h3]; simp [h4])
    (fun z ⟨pre,h1,h2,h3⟩=>by
      have hd:decide ((c.length:Int) < len c) = false:=by rw [Zc]; simp
      simp only [hd,ZfY,Zgv]
      rw [ZgD] at h1
      subst h1
      exact ⟨_,rfl,.inl ⟨by rw [h2],h3⟩⟩) (a:=(0,0)) ⟨[],rfl,rfl,rfl⟩ (by omega)
  have G:∀ z,r = z → Zf n ⟨a,q⟩ c = (match z with
     | .inl s1r=>if (s1r.1 == 0) then some (false,⟨a,q⟩) else if (s1r.1 == 1) then (Zk ⟨a,q⟩ s1r.2).bind fun x4=>some (x4.1,x4.2) else some (true,⟨a,q⟩)
     | .inr v=>some v):=fun z e=>by
    subst e
    unfold Zf
    exact congrArg (fun o=>Option.bind o (fun (rl1:(Int × Int) ⊕ (Bool × D.assignment))=>match rl1 with
     | .inl s1r=>if (s1r.1 == 0) then some (false,⟨a,q⟩) else if (s1r.1 == 1) then (Zk ⟨a,q⟩ s1r.2).bind fun x4=>some (x4.1,x4.2) else some (true,⟨a,q⟩)
     | .inr v=>some v)) g1
  rcases g2 with ⟨e,hany⟩ | ⟨e,hany⟩
  · refine .inr ⟨hany, ?_⟩
    have G:=G _ e
    match hfr:free a c with
    | []=>exact .inl ⟨rfl,by rw [G,hfr]; rfl⟩
    | [l] =>
      have hlm:l ∈ free a c:=by rw [hfr]; simp
      rw [Xu] at hlm
      refine .inr (.inl ⟨l,rfl,?_⟩)
      rw [G,hfr]
      show ((Zk ⟨a,q⟩ l).bind fun x4=>some (x4.1,x4.2)) = _
      rw [ZbY hA hm (hc l hlm.1) hlm.2 hq]; rfl
    | x :: y :: l =>
      refine .inr (.inr ⟨by simp,?_⟩)
      rw [G,hfr]
      simp only
      rw [Zgb (by simp; omega),Zgb (by simp; omega)]
  · exact .inl ⟨hany,G _ e⟩
def pend (a q:List Int) (c:List Int):Prop:=∃ x ∈ c,lv a x = -1 ∧ -x ∈ q
structure Wq (m:Nat) (cs:List (List Int)) (S:Int → Prop) (a q:List Int):Prop where
 way:Way m cs S a
 tru:∀ l ∈ q,isL m l ∧ lv a l = 1
 len:q.length + zer a ≤ 1000
theorem Zbk (hf:FmP f m) (hS:∀ x,S x → isL m x) {a q:List Int} (hw:Wq m f.Clauses S a q) {c:List Int} (hc:c ∈ f.Clauses) (P:List Int → Prop) (hJ:∀ d ∈ f.Clauses,P d ∨ good a d ∨ pend a q d) {n:Nat} (hn:2000 ≤ n) :
  (Zf n ⟨a,q⟩ c = some (false,⟨a,q⟩) ∧ Bad f.Clauses S) ∨
  ∃ a' q',Zf n ⟨a,q⟩ c = some (true,⟨a',q'⟩) ∧ Wq m f.Clauses S a' q' ∧ q'.length + 2 * zer a' ≤ q.length + 2 * zer a ∧ good a' c ∧ ∀ d ∈ f.Clauses,P d ∨ good a' d ∨ pend a' q' d:=by
 have hcl:=hf.cl c hc
 have hA:=hw.way.asg
 rcases Zdr (q:=q) hA hf.small hcl.1.lit hcl.2 (by have:=hw.len; omega) hn with ⟨h1,h2⟩ | ⟨h1,⟨h3,h2⟩ | ⟨l,h3,h2⟩ | ⟨h3,h2⟩⟩
 ·exact .inr ⟨a,q,h2,hw,Zgp _,.inl (Zac.1 h1),hJ⟩
 ·have hn1:∀ x ∈ c,lv a x ≠ 1:=fun x hx e=>by
   have:=Zac.2 ⟨x,hx,e⟩
   rw [h1] at this; cases this
  exact .inl ⟨h2,Zcb hA hw.way.snd hc hcl.1 hn1 h3⟩
 ·have hn1:∀ x ∈ c,lv a x ≠ 1:=fun x hx e=>by
   have:=Zac.2 ⟨x,hx,e⟩
   rw [h1] at this; cases this
  obtain ⟨k1,k2,k3,k4⟩:=hw.way.unit hS hc hcl.1 hn1 h3
  have hz:=X3 hA k2 k3
  have hlen:=hw.len
  refine .inr ⟨stA a l,q ++ [l],h2,⟨k1,fun y hy=>?_,by rw [Zgh]; simp; omega⟩,by rw [Zgh]; simp; omega,.inl ⟨l,k4,by rw [YM hA.len k2 k2.1,Zga rfl]⟩,fun d hd=>?_⟩
  ·rcases Zgu.1 hy with hy | hy
   ·have := hw.tru y hy
    exact ⟨this.1,by rw [XW hA k2 k3 this.1.1 (by omega)]; exact this.2⟩
   ·rw [Zgo] at hy; subst hy
    exact ⟨k2,by rw [YM hA.len k2 k2.1,Zga rfl]⟩
  ·rcases hJ d hd with h | h | ⟨x, hx, hx1, hx2⟩
   ·exact .inl h
   ·rcases ZbW hA k2 k3 (hf.cl d hd).1 h with h | h
    ·exact .inr (.inl h)
    ·exact .inr (.inr ⟨-l,h,by rw [Yq k2.1,YM hA.len k2 k2.1,Zga rfl],by simp⟩)
   ·exact .inr (.inr ⟨x,hx,by rw [XW hA k2 k3 ((hf.cl d hd).1.lit x hx).1 (by omega)]; exact hx1,Zhj _ hx2⟩)
 ·exact .inr ⟨a,q,h2,hw,Zgp _,ZbP hcl.1 h3,hJ⟩
end
structure OccP (f:D.Formula) (m:Nat) (occ:List (List Int)):Prop where
 len:occ.length = 2 * m + 1
 val:∀ j,∀ i ∈ occ.getD j [],0 ≤ i ∧ i < (f.Clauses.length:Int)
 all:∀ (i:Nat) (c:List Int),f.Clauses[i]? = some c → ∀ y ∈ c,(i:Int) ∈ occ.getD (y + m).toNat []
 small:∀ j,(occ.getD j []).length ≤ 1700000
theorem Zdd {α:Type} {l:List α} {x:α} (h:l.length ≤ 4000000):app? l [x] = some (l ++ [x]):=by
 unfold app? room; rw [Zga (by simp; omega)]
theorem XL {l:List (List Int)} {i j:Nat} {v:List Int} (h:i < l.length):(l.set i v).getD j [] = if j = i then v else l.getD j []:=by
 rw [ZfW,Zhc,ZfW]
 by_cases e:i = j
 ·subst e; rw [Zga rfl,Zga h,Zga rfl]; rfl
 ·rw [Zgb e,Zgb (Ne.symm e)]
theorem ZcW {l:List (List Int)} {i:Nat} (h:i < l.length):l[i]? = some (l.getD i []):=by
 rw [ZfW,ZfV h]; rfl
section
variable {f:D.Formula} {m:Nat} {S:Int → Prop} {occ:List (List Int)}
theorem ZeL {y:Int} (hm:m ≤ 400) (hl:isL m y):w64 (y + (m:Int)) = (((y + m).toNat:Nat):Int) ∧ (y + m).toNat < 2 * m + 1:=by
 obtain ⟨l0,l1⟩:=hl
 rw [Zd (by omega) (by omega)]; omega
structure OccK (f:D.Formula) (m k:Nat) (pre:List Int) (occ:List (List Int)):Prop where
 len:occ.length = 2 * m + 1
 val:∀ j,∀ i ∈ occ.getD j [],0 ≤ i ∧ i < (f.Clauses.length:Int)
 all:∀ (i:Nat) (c:List Int),i < k → f.Clauses[i]? = some c → ∀ y ∈ c,(i:Int) ∈ occ.getD (y + m).toNat []
 cur:∀ y ∈ pre,(k:Int) ∈ occ.getD (y + m).toNat []
 small:∀ j,(occ.getD j []).length ≤ 1000 * k + pre.length
theorem ZdF (hf:FmP f m) {k:Nat} {c:List Int} (hk:f.Clauses[k]? = some c) (h:OccK f m k [] occ) {n:Nat} (hn:4000000 ≤ n):∃ occ',iterN (fun (s2:Int × (List (List Int)))=>
    if (decide (s2.1 < (len c))) then
     (get? c s2.1).bind fun x3=>
     (get? s2.2 (w64 (x3 + f.Vars))).bind fun x4=>
     (app? x4 ([(k:Int)]:List Int)).bind fun x5=>
     (set? s2.2 (w64 (x3 + f.Vars)) x5).bind fun x6=>
     some (.inl ((w64 (s2.1 + 1)),x6))
    else
     some (.inr (s2.2))) n (0,occ) = some occ' ∧ OccK f m k c occ':=by
  have hcl:=hf.cl c (Zgt hk)
  have hkl:k < f.Clauses.length:=(ZfX.1 hk).1
  have hnum:=hf.num
  obtain ⟨r,g1,g2⟩:=Xt (l:=c) (n:=n) (σ:=List (List Int)) (ρ:=List (List Int)) (B:=fun (s2:Int × (List (List Int)))=>
    if (decide (s2.1 < (len c))) then
     (get? c s2.1).bind fun x3=>
     (get? s2.2 (w64 (x3 + f.Vars))).bind fun x4=>
     (app? x4 ([(k:Int)]:List Int)).bind fun x5=>
     (set? s2.2 (w64 (x3 + f.Vars)) x5).bind fun x6=>
     some (.inl ((w64 (s2.1 + 1)),x6))
    else
     some (.inr (s2.2))) (fun j a=>((j:Int),a)) (fun ys a=>∃ pre,pre ++ ys = c ∧ OccK f m k pre a) (fun r=>OccK f m k c r)
    (fun j y ys a hj hy hl ⟨pre,h1,h2⟩=>by
      have hd:decide ((j:Int) < len c) = true:=by rw [Zc]; simp; omega
      have hly:=hcl.1.lit y (Zgt hy)
      have hk1:w64 ((j:Int) + 1) = ((j + 1:Nat):Int):=by rw [Zd (by omega) (by omega)]; rfl
      obtain ⟨e1,e2⟩:=ZeL hf.small hly
      have hpl:pre.length ≤ c.length:=by rw [← h1]; simp
      have hsm:=h2.small (y + m).toNat
      simp only [hd,Zg6,get?_nat,hy,ZfT]
      rw [hf.vars,e1,get?_nat,ZcW (by rw [h2.len]; exact e2)]
      simp only [ZfT]
      rw [Zdd (by omega)]
      simp only [ZfT]
      have hst:set? a (((y + m).toNat:Nat):Int) (a.getD (y + m).toNat [] ++ [(k:Int)]) = some (a.set (y + m).toNat (a.getD (y + m).toNat [] ++ [(k:Int)])):=by
        unfold set?
        rw [Zga ⟨by omega,by have:=h2.len; rw [Zho]; omega⟩,Zho]
      rw [hst]
      have hlt:(y + m).toNat < a.length:=by rw [h2.len]; exact e2
      have hmem:∀ j' i,i ∈ a.getD j' [] → i ∈ (a.set (y + m).toNat (a.getD (y + m).toNat [] ++ [(k:Int)])).getD j' []:=fun j' i hi=>by
        rw [XL hlt]
        split
        · rename_i e; subst e; exact Zhj _ hi
        · exact hi
      refine .inl ⟨_,by simp only [ZfT,hk1],pre ++ [y],by rw [Zg2]; exact h1,?_,fun j' i hi=>?_,fun i d hi hd' z hz=>hmem _ _ (h2.all i d hi hd' z hz),fun z hz=>?_,fun j'=>?_⟩
      · rw [ZhV]; exact h2.len
      · rw [XL hlt] at hi
        split at hi
        · rcases Zgu.1 hi with hi | hi
          · exact h2.val _ i hi
          · rw [Zgo] at hi; subst hi; omega
        · exact h2.val _ i hi
      · rcases Zgu.1 hz with hz | hz
        · exact hmem _ _ (h2.cur z hz)
        · rw [Zgo] at hz; subst hz
          rw [XL hlt,Zga rfl]; simp
      · have e : (pre ++ [y]).length = pre.length + 1 := by simp
        have h3:=h2.small j'
        rw [XL hlt,e]
        split
        · rw [Zgh,ZgR]; omega
        · omega)
    (fun a ⟨pre,h1,h2⟩=>by
      have hd:decide ((c.length:Int) < len c) = false:=by rw [Zc]; simp
      simp only [hd,ZfY,Zgv]
      rw [ZgD] at h1
      subst h1
      exact ⟨_,rfl,h2⟩) (a:=occ) ⟨[],rfl,h⟩ (by omega)
  exact ⟨r,g1,g2⟩
theorem Zb6 {α:Type} {k:Nat} {z:α} (h:k ≤ 100000):mk? (k:Int) z = some (List.replicate k z):=by
 unfold mk? room
 rw [Zga (by omega)]; simp
theorem ZcD (hf:FmP f m) {n:Nat} (hn:4000000 ≤ n):∃ occ,Yc n f = some ⟨f,occ⟩ ∧ OccP f m occ:=by
  have hnum:=hf.num
  have hm:=hf.small
  have e0:w64 (w64 (2 * f.Vars) + 1) = ((2 * m + 1:Nat):Int):=by rw [hf.vars,Zd (x:=2 * (m:Int)) (by omega) (by omega),Zd (by omega) (by omega)]; omega
  have hgl:∀ j,(List.replicate (2 * m + 1) ([]:List Int)).getD j [] = []:=fun j=>by
    rw [ZfW,ZgK]
    split <;> rfl
  obtain ⟨r,g1,g2⟩:=Xt (l:=f.Clauses) (n:=n) (σ:=List (List Int)) (ρ:=List (List Int)) (B:=fun (s1:Int × (List (List Int)))=>
  if (decide (s1.1 < (len f.Clauses))) then
   (get? f.Clauses s1.1).bind fun x2 =>
   (iterN (fun (s2 : Int × (List (List Int))) =>
    if (decide (s2.1 < (len x2))) then
     (get? x2 s2.1).bind fun x3=>
     (get? s2.2 (w64 (x3 + f.Vars))).bind fun x4=>
     (app? x4 ([s1.1]:List Int)).bind fun x5=>
     (set? s2.2 (w64 (x3 + f.Vars)) x5).bind fun x6=>
     some (.inl ((w64 (s2.1 + 1)),x6))
    else
     some (.inr (s2.2))
   ) n (0,s1.2)).bind fun (rl2:(List (List Int)))=>
   some (.inl ((w64 (s1.1 + 1)),rl2))
  else
   some (.inr (s1.2))) (fun j a=>((j:Int),a)) (fun ys a=>∃ k,k + ys.length = f.Clauses.length ∧ OccK f m k [] a) (fun r=>OccK f m f.Clauses.length [] r)
    (fun j c xs a hj hx hl ⟨k,h1,h2⟩=>by
      have hd:decide ((j:Int) < len f.Clauses) = true:=by rw [Zc]; simp; omega
      have hkj:k = j:=by omega
      subst hkj
      have hk1:w64 ((k:Int) + 1) = ((k + 1:Nat):Int):=by rw [Zd (by omega) (by omega)]; rfl
      have hcl:=hf.cl c (Zgt hx)
      obtain ⟨o',q1,q2⟩:=ZdF hf hx h2 hn
      simp only [hd,Zg6,get?_nat,hx,ZfT]
      rw [q1]
      refine .inl ⟨o',by simp only [ZfT,hk1],k + 1,by simp at h1; omega,q2.len,q2.val,fun i d hi hd' y hy=>?_,fun y hy=>(by cases hy),fun j'=>?_⟩
      · by_cases e : i = k
        · subst e
          rw [hx] at hd'
          cases hd'
          exact q2.cur y hy
        · exact q2.all i d (by omega) hd' y hy
      · have h3 := q2.small j'
        have h4:=hcl.2
        have e:([]:List Int).length = 0:=rfl
        rw [e]; omega)
    (fun a ⟨k,h1,h2⟩=>by
      have hd:decide ((f.Clauses.length:Int) < len f.Clauses) = false:=by rw [Zc]; simp
      simp only [hd,ZfY,Zgv]
      have:k = f.Clauses.length:=by simpa using h1
      subst this
      exact ⟨_,rfl,h2⟩) (a:=List.replicate (2 * m + 1) []) ⟨0,by simp,by simp,fun j i hi=>(by rw [hgl] at hi; cases hi),fun i c hi=>(by omega),fun y hy=>(by cases hy),fun j=>(by rw [hgl]; simp)⟩ (by omega)
  refine ⟨r,?_,g2.len,g2.val,fun i c hc y hy=>g2.all i c (ZfX.1 hc).1 hc y hy,fun j=>?_⟩
  · unfold Yc
    rw [e0,Zb6 (by omega)]
    simp only [ZfT]
    rw [show ((0:Nat):Int) = 0 from rfl] at g1
    rw [g1]; rfl
  · have h3 := g2.small j
    have e:([]:List Int).length = 0:=rfl
    rw [e] at h3; omega
theorem Ze4 (hf:FmP f m) (hS:∀ x,S x → isL m x) (ho:OccP f m occ) {n:Nat} (hn:4000000 ≤ n):∀ (M:Nat) (a q:List Int) (k:Nat),q.length + 2 * zer a ≤ M → Wq m f.Clauses S a q → (∀ d ∈ f.Clauses,good a d ∨ pend a q d) → M + 1 ≤ k → ∃ r,iterN (fun (s1:(List Int) × (List Int))=>
  if (decide ((len s1.2) > 0)) then
   (get? s1.2 (w64 ((len s1.2) - 1))).bind fun x1=>
   (cut? s1.2 0 (w64 ((len s1.2) - 1))).bind fun x2=>
   (get? occ (w64 (f.Vars - x1))).bind fun x3 =>
   (iterN (fun (s2 : Int × (List Int) × (List Int)) =>
    if (decide (s2.1 < (len x3))) then
     (get? x3 s2.1).bind fun x4=>
     (get? f.Clauses x4).bind fun x5=>
     (Zf n (D.assignment.mk s2.2.1 s2.2.2) x5).bind fun x6=>
     if (!x6.1) then
      some (.inr (.inr (false,x6.2)))
     else
      some (.inl ((w64 (s2.1 + 1)),x6.2.val,x6.2.queue))
    else
     some (.inr (.inl (s2.2.1,s2.2.2)))
   ) n (0,s1.1,x2)).bind fun (rl2:((List Int) × (List Int)) ⊕ (Bool × D.assignment))=>
   match rl2 with
   | .inl s2r=>
    some (.inl (s2r.1,s2r.2))
   | .inr v=>some (.inr (.inr v))
  else
   some (.inr (.inl (s1.1,s1.2))):(List Int) × (List Int) → Option (((List Int) × (List Int)) ⊕ (((List Int) × (List Int)) ⊕ (Bool × D.assignment)))) k (a,q) = some r ∧ ((∃ a',r = .inl (a',[]) ∧ Okc m f.Clauses S a') ∨ ∃ x,r = .inr (false,x) ∧ Bad f.Clauses S):=by
  intro M
  induction M with
  | zero =>
    intro a q k hM hw hJ hk
    have hq:q = []:=ZgO (by omega)
    subst hq
    refine ⟨_,Zu rfl (by omega),.inl ⟨a,rfl,hw.way.asg,hw.way.ext,hw.way.snd,fun d hd=>?_⟩⟩
    rcases hJ d hd with h | ⟨x,_,_,h⟩
    · exact h
    · cases h
  | succ M ih =>
    intro a q k hM hw hJ hk
    obtain ⟨k,rfl⟩ : ∃ j,k = j + 1:=⟨k - 1,by omega⟩
    rcases List.eq_nil_or_concat q with rfl | ⟨q0,l,rfl⟩
    · refine ⟨_, Zu rfl (by omega), .inl ⟨a, rfl, hw.way.asg, hw.way.ext, hw.way.snd, fun d hd => ?_⟩⟩
      rcases hJ d hd with h | ⟨x,_,_,h⟩
      · exact h
      · cases h
    · have hlen := hw.len
      rw [List.concat_eq_append] at *
      rw [Zgh] at hlen hM
      simp only [ZgR] at hlen hM
      obtain ⟨hl,hl1⟩:=hw.tru l (by simp)
      have hln:isL m (-l):=⟨by have:=hl.1; omega,by rw [ZhI]; exact hl.2⟩
      have e1:w64 (len (q0 ++ [l]) - 1) = (q0.length:Int):=by rw [Zc,Zgh]; simp; exact Zd (by omega) (by omega)
      have e2:get? (q0 ++ [l]) (q0.length:Int) = some l:=by rw [get?_nat,Zgc (Zgp _)]; simp
      have e3:cut? (q0 ++ [l]) 0 (q0.length:Int) = some q0:=by
        unfold cut?
        rw [Zga ⟨ZgC _,by omega,by rw [Zgh,ZgR]; omega⟩,Zho]; simp
      obtain ⟨x1,x2⟩:=ZeL hf.small hln
      have e4:get? occ (w64 (f.Vars - l)) = some (occ.getD (-l + m).toNat []):=by
        rw [hf.vars,show ((m:Int) - l) = -l + m by omega,x1,get?_nat,ZcW (by rw [ho.len]; exact x2)]
      have hgt:decide (len (q0 ++ [l]) > 0) = true:=by rw [Zc]; exact decide_eq_true (by rw [Zgh,ZgR]; omega)
      have hw0:Wq m f.Clauses S a q0:=⟨hw.way,fun y hy=>hw.tru y (Zhj _ hy),by omega⟩
      have hsm:=ho.small (-l + m).toNat
      obtain ⟨r,g1,g2⟩:=Xt (l:=occ.getD (-l + m).toNat []) (n:=n) (σ:=List Int × List Int) (ρ:=((List Int) × (List Int)) ⊕ (Bool × D.assignment)) (B:=fun (s2:Int × (List Int) × (List Int))=>
    if (decide (s2.1 < (len (occ.getD (-l + m).toNat [])))) then
     (get? (occ.getD (-l + m).toNat []) s2.1).bind fun x4=>
     (get? f.Clauses x4).bind fun x5=>
     (Zf n (D.assignment.mk s2.2.1 s2.2.2) x5).bind fun x6=>
     if (!x6.1) then
      some (.inr (.inr (false,x6.2)))
     else
      some (.inl ((w64 (s2.1 + 1)),x6.2.val,x6.2.queue))
    else
     some (.inr (.inl (s2.2.1,s2.2.2)))) (fun j z=>((j:Int),z.1,z.2))
        (fun ys z=>Wq m f.Clauses S z.1 z.2 ∧ z.2.length + 2 * zer z.1 ≤ M ∧ ∀ d ∈ f.Clauses,(∃ i ∈ ys,f.Clauses[i.toNat]? = some d) ∨ good z.1 d ∨ pend z.1 z.2 d)
        (fun r=>(∃ z,r = .inl z ∧ Wq m f.Clauses S z.1 z.2 ∧ z.2.length + 2 * zer z.1 ≤ M ∧ ∀ d ∈ f.Clauses,good z.1 d ∨ pend z.1 z.2 d) ∨ ∃ x,r = .inr (false,x) ∧ Bad f.Clauses S)
        (fun j i ys z hj hi hl' ⟨i1,i2,i3⟩=>by
          have hd:decide ((j:Int) < len (occ.getD (-l + m).toNat [])) = true:=by rw [Zc]; exact decide_eq_true (by omega)
          have hk1:w64 ((j:Int) + 1) = ((j + 1:Nat):Int):=by rw [Zd (by omega) (by omega)]; rfl
          have hiv:=ho.val _ i (Zgt hi)
          have hic:f.Clauses[i.toNat]? = some f.Clauses[i.toNat]:=ZfV (by omega)
          have hg:get? f.Clauses i = some f.Clauses[i.toNat]:=by unfold get?; rw [Zga hiv.1]; exact hic
          simp only [hd,Zg6,get?_nat,hi,ZfT]
          rw [hg]
          simp only [ZfT]
          rcases Zbk hf hS i1 (Zg7 (show i.toNat < f.Clauses.length by omega)) (fun d=>(∃ i ∈ ys,f.Clauses[i.toNat]? = some d) ∨ d = f.Clauses[i.toNat]) (fun d hd'=>by
            rcases i3 d hd' with ⟨i',h1,h2⟩ | h | h
            · rcases Zgz.1 h1 with rfl | h1
              · rw [hic] at h2; exact .inl (.inr (Option.some.inj h2).symm)
              · exact .inl (.inl ⟨i',h1,h2⟩)
            · exact .inr (.inl h)
            · exact .inr (.inr h)) (n:=n) (by omega) with ⟨h1,h2⟩ | ⟨a',q',h1,h2,h3,h4,h5⟩
          · rw [h1]
            exact .inr ⟨_,rfl,.inr ⟨_,rfl,h2⟩⟩
          · rw [h1]
            refine .inl ⟨(a',q'),by simp only [ZfT,hk1]; rfl,h2,by simp only; omega,fun d hd'=>?_⟩
            rcases h5 d hd' with (h | h) | h | h
            · exact .inl h
            · exact .inr (.inl (h ▸ h4))
            · exact .inr (.inl h)
            · exact .inr (.inr h))
        (fun z ⟨i1,i2,i3⟩=>by
          have hd:decide (((occ.getD (-l + m).toNat []).length:Int) < len (occ.getD (-l + m).toNat [])) = false:=by rw [Zc]; simp
          simp only [hd,ZfY,Zgv]
          refine ⟨_,rfl,.inl ⟨z,rfl,i1,i2,fun d hd'=>?_⟩⟩
          rcases i3 d hd' with ⟨i',h1,_⟩ | h
          · cases h1
          · exact h) (a := (a, q0)) ⟨hw0, by simp only; omega, fun d hd' => by
            rcases hJ d hd' with h | ⟨x,hx,hx1,hx2⟩
            · exact .inr (.inl h)
            · rcases Zgu.1 hx2 with h | h
              · exact .inr (.inr ⟨x,hx,hx1,h⟩)
              · rw [Zgo] at h
                obtain ⟨i,hi⟩:=Zh3 hd'
                have hxl:x = -l:=by omega
                exact .inl ⟨(i:Int),ho.all i d hi (-l) (hxl ▸ hx),by simpa using hi⟩⟩ (by omega)
      rw [show ((0:Nat):Int) = 0 from rfl] at g1
      rcases g2 with ⟨z,rfl,h1,h2,h3⟩ | ⟨x,rfl,h1⟩
      · obtain ⟨r', q1, q2⟩ := ih z.1 z.2 k (by omega) h1 h3 (by omega)
        refine ⟨r',?_,q2⟩
        rw [Xf (s':=(z.1,z.2)) (by
          simp only [hgt,Zg6,e1,e2,e3,ZfT]
          rw [e4]
          simp only [ZfT]
          rw [g1]; rfl)]
        exact q1
      · refine ⟨_,Zu (r:=.inr (false,x)) (by
          simp only [hgt,Zg6,e1,e2,e3,ZfT]
          rw [e4]
          simp only [ZfT]
          rw [g1]; rfl) (by omega),.inr ⟨x,rfl,h1⟩⟩
end
section
variable {f:D.Formula} {m:Nat} {S:Int → Prop} {occ:List (List Int)}
theorem ZaC {cs:List (List Int)} {a:List Int} (hA:Asg m a):Way m cs (Sv m a) a:=⟨hA,fun _ hx=>hx.2,fun _ h1 h2=>.base ⟨h1,h2⟩⟩
theorem Zb0 {a:List Int}:∀ x,Sv m a x → isL m x:=fun _ h=>h.1
theorem FmP.cls (hf:FmP f m):∀ c ∈ f.Clauses,ClM m c:=fun c hc=>(hf.cl c hc).1
noncomputable def clo (m:Nat) (cs:List (List Int)) (v:List Int):Option (List Int):=open Classical in if h:∃ a,Okc m cs (Sv m v) a then some h.choose else none
theorem Zc0 {cs:List (List Int)} (hcs:∀ c ∈ cs,ClM m c) {v a:List Int} (h:Okc m cs (Sv m v) a):clo m cs v = some a:=by
 have hx:∃ a,Okc m cs (Sv m v) a:=⟨a,h⟩
 unfold clo
 rw [dif_pos hx,ZeK hcs hx.choose_spec h]
theorem Zb3 {cs:List (List Int)} (hcs:∀ c ∈ cs,ClM m c) {v:List Int} (h:Bad cs (Sv m v)):clo m cs v = none:=by
 unfold clo
 rw [dif_neg (fun ⟨a,ha⟩=>Zcf hcs ha h)]
theorem YO {cs:List (List Int)} {v a:List Int} (h:clo m cs v = some a):Okc m cs (Sv m v) a:=by
 unfold clo at h
 split at h
 ·rename_i hx; rw [← Option.some.inj h]; exact hx.choose_spec
 ·cases h
theorem Zco (hf:FmP f m) (hS:∀ x,S x → isL m x) (ho:OccP f m occ) {n:Nat} (hn:4000000 ≤ n) {a q:List Int} (hw:Wq m f.Clauses S a q) (hJ:∀ d ∈ f.Clauses,good a d ∨ pend a q d) :
  ∃ b a',Zr n ⟨f,occ⟩ ⟨a,q⟩ = some (b,a') ∧ ((b = true ∧ a'.queue = [] ∧ Okc m f.Clauses S a'.val) ∨ (b = false ∧ Bad f.Clauses S)):=by
 have hz:=hw.len
 obtain ⟨r,g1,g2⟩:=Ze4 hf hS ho hn (q.length + 2 * zer a) a q n (Zgp _) hw hJ (by omega)
 have G:∀ z,r = z → Zr n ⟨f,occ⟩ ⟨a,q⟩ = (match z with | .inl s1r=>some (true,(D.assignment.mk s1r.1 s1r.2)) | .inr v=>some v):=fun z e=>by
  subst e
  unfold Zr
  exact congrArg (fun o=>Option.bind o (fun (rl1:((List Int) × (List Int)) ⊕ (Bool × D.assignment))=>match rl1 with | .inl s1r=>some (true,(D.assignment.mk s1r.1 s1r.2)) | .inr v=>some v)) g1
 rcases g2 with ⟨a',e,h⟩ | ⟨x,e,h⟩
 ·exact ⟨true,⟨a',[]⟩,G _ e,.inl ⟨rfl,rfl,h⟩⟩
 ·exact ⟨false,x,G _ e,.inr ⟨rfl,h⟩⟩
theorem ZeX {l:List Int} (h:l.length ≤ 1000000):Zl l = some l:=by
 unfold Zl app? room
 rw [Zga (by simp; omega)]; rfl
theorem ZdK (hf:FmP f m) (ho:OccP f m occ) {n:Nat} (hn:4000000 ≤ n) {a q:List Int} {l:Int} (hA:Asg m a) (hg:∀ c ∈ f.Clauses,good a c) (hl:isL m l) (h0:lv a l = 0) :
  ∃ a' b,Zh n ⟨f,occ⟩ ⟨a,q⟩ l = some (a',b) ∧ ((b = true ∧ a'.queue = [] ∧ clo m f.Clauses (stA a l) = some a'.val) ∨ (b = false ∧ clo m f.Clauses (stA a l) = none)):=by
 have hm:=hf.small
 have hz:=ZeH hA
 have hz1:=X3 hA hl h0
 have hA1:=Zaj hA hl
 have hw:Wq m f.Clauses (Sv m (stA a l)) (stA a l) [l]:=⟨ZaC hA1,fun y hy=>by
  rw [Zgo] at hy; subst hy
  exact ⟨hl,by rw [YM hA.len hl hl.1,Zga rfl]⟩,by simp; omega⟩
 obtain ⟨b,a',h1,h2⟩:=Zco hf Zb0 ho hn hw fun d hd=>by
  rcases ZbW hA hl h0 (hf.cl d hd).1 (hg d hd) with h | h
  ·exact .inl h
  ·exact .inr ⟨-l,h,by rw [Yq hl.1,YM hA.len hl hl.1,Zga rfl],by simp⟩
 unfold Zh
 rw [ZeX (l:=a) (by have:=hA.len; omega)]
 simp only [ZfT]
 rw [ZbY hA hm hl h0 (by simp)]
 simp only [ZfT,Zgr,ZfY,Zgv,Zip]
 rw [h1]
 simp only [ZfT]
 rcases h2 with ⟨rfl,h3,h4⟩ | ⟨rfl,h3⟩
 ·exact ⟨a',true,rfl,.inl ⟨rfl,h3,Zc0 hf.cls h4⟩⟩
 ·exact ⟨default,false,rfl,.inr ⟨rfl,Zb3 hf.cls h3⟩⟩
theorem Zbj (m:Nat):Asg m (List.replicate (m + 1) 0):=by
 have h:∀ i,(List.replicate (m + 1) (0:Int)).getD i 0 = 0:=fun i=>by
  rw [ZfW,ZgK]
  split <;> rfl
 exact ⟨by simp,fun i=>by rw [h]; omega,h 0⟩
theorem start_eq (hf:FmP f m) (ho:OccP f m occ) {n:Nat} (hn:4000000 ≤ n) :
    ∃ a' b,ZB n ⟨f,occ⟩ [] = some (a',b) ∧ ((b = true ∧ a'.queue = [] ∧ clo m f.Clauses (List.replicate (m + 1) 0) = some a'.val) ∨ (b = false ∧ clo m f.Clauses (List.replicate (m + 1) 0) = none)):=by
  have hm:=hf.small
  have hnum:=hf.num
  have hA:=Zbj m
  have hz:=ZeH hA
  have e0:w64 (f.Vars + 1) = ((m + 1:Nat):Int):=by rw [hf.vars,Zd (by omega) (by omega)]; rfl
  have hw:Wq m f.Clauses (Sv m (List.replicate (m + 1) 0)) (List.replicate (m + 1) 0) []:=⟨ZaC hA,fun y hy=>(by cases hy),by rw [ZhG]; omega⟩
  obtain ⟨r,g1,g2⟩:=Xt (l:=f.Clauses) (n:=n) (σ:=List Int × List Int) (ρ:=((List Int) × (List Int)) ⊕ (D.assignment × Bool)) (B:=fun (s2:Int × (List Int) × (List Int))=>
   if (decide (s2.1 < (len f.Clauses))) then
    (get? f.Clauses s2.1).bind fun x4=>
    (Zf n (D.assignment.mk s2.2.1 s2.2.2) x4).bind fun x5=>
    if (!x5.1) then
     some (.inr (.inr (default,false)))
    else
     some (.inl ((w64 (s2.1 + 1)),x5.2.val,x5.2.queue))
   else
    some (.inr (.inl (s2.2.1,s2.2.2)))) (fun j z=>((j:Int),z.1,z.2))
    (fun ys z=>Wq m f.Clauses (Sv m (List.replicate (m + 1) 0)) z.1 z.2 ∧ ∀ d ∈ f.Clauses,d ∈ ys ∨ good z.1 d ∨ pend z.1 z.2 d)
    (fun r=>(∃ z,r = .inl z ∧ Wq m f.Clauses (Sv m (List.replicate (m + 1) 0)) z.1 z.2 ∧ ∀ d ∈ f.Clauses,good z.1 d ∨ pend z.1 z.2 d) ∨ r = .inr (default,false) ∧ Bad f.Clauses (Sv m (List.replicate (m + 1) 0)))
    (fun j c ys z hj hx hl ⟨i1,i2⟩=>by
      have hd:decide ((j:Int) < len f.Clauses) = true:=by rw [Zc]; exact decide_eq_true (by omega)
      have hk1:w64 ((j:Int) + 1) = ((j + 1:Nat):Int):=by rw [Zd (by omega) (by omega)]; rfl
      simp only [hd,Zg6,get?_nat,hx,ZfT]
      rcases Zbk hf Zb0 i1 (Zgt hx) (fun d=>d ∈ ys ∨ d = c) (fun d hd'=>by
        rcases i2 d hd' with h | h | h
        · rcases Zgz.1 h with h | h
          · exact .inl (.inr h)
          · exact .inl (.inl h)
        · exact .inr (.inl h)
        · exact .inr (.inr h)) (n:=n) (by omega) with ⟨h1,h2⟩ | ⟨a',q',h1,h2,h3,h4,h5⟩
      · rw [h1]
        exact .inr ⟨_,rfl,.inr ⟨rfl,h2⟩⟩
      · rw [h1]
        refine .inl ⟨(a',q'),by simp only [ZfT,hk1]; rfl,h2,fun d hd'=>?_⟩
        rcases h5 d hd' with (h | h) | h | h
        · exact .inl h
        · exact .inr (.inl (h ▸ h4))
        · exact .inr (.inl h)
        · exact .inr (.inr h))
    (fun z ⟨i1,i2⟩=>by
      have hd:decide ((f.Clauses.length:Int) < len f.Clauses) = false:=by rw [Zc]; simp
      simp only [hd,ZfY,Zgv]
      refine ⟨_,rfl,.inl ⟨z,rfl,i1,fun d hd'=>?_⟩⟩
      rcases i2 d hd' with h | h
      · cases h
      · exact h) (a:=(List.replicate (m + 1) 0,[])) ⟨hw,fun d hd=>.inl hd⟩ (by omega)
  rw [show ((0:Nat):Int) = 0 from rfl] at g1
  have hl0:iterN (fun (s1:Int × (List Int) × (List Int))=>
  if (decide (s1.1 < (len ([]:List Int)))) then
   (get? ([]:List Int) s1.1).bind fun x2=>
   (Zk (D.assignment.mk s1.2.1 s1.2.2) x2).bind fun x3=>
   if (!x3.1) then
    some (.inr (.inr ((default:D.assignment),false)))
   else
    some (.inl ((w64 (s1.1 + 1)),x3.2.val,x3.2.queue))
  else
   some (.inr (.inl (s1.2.1,s1.2.2))):Int × (List Int) × (List Int) → Option ((Int × (List Int) × (List Int)) ⊕ (((List Int) × (List Int)) ⊕ (D.assignment × Bool)))) n (0,List.replicate (m + 1) 0,[]) = some (.inl (List.replicate (m + 1) 0,[])):=Zu rfl (by omega)
  have G:∀ z,r = z → ZB n ⟨f,occ⟩ [] = (match z with
    | .inl s2r=>(Zr n ⟨f,occ⟩ (D.assignment.mk s2r.1 s2r.2)).bind fun x6=>if (!x6.1) then some (default,false) else some (x6.2,true)
    | .inr v=>some v):=fun z e=>by
    subst e
    unfold ZB
    rw [e0,Zb6 (by omega)]
    simp only [ZfT]
    refine (congrArg (fun o=>Option.bind o _) hl0).trans ?_
    exact congrArg (fun o=>Option.bind o (fun (rl2:((List Int) × (List Int)) ⊕ (D.assignment × Bool))=>match rl2 with
    | .inl s2r=>(Zr n ⟨f,occ⟩ (D.assignment.mk s2r.1 s2r.2)).bind fun x6=>if (!x6.1) then some (default,false) else some (x6.2,true)
    | .inr v=>some v)) g1
  rcases g2 with ⟨z,e,h1,h2⟩ | ⟨e,h⟩
  · obtain ⟨b, a', k1, k2⟩ := Zco hf Zb0 ho hn h1 h2
    have G:=G _ e
    simp only at G
    rw [k1] at G
    rcases k2 with ⟨rfl,k3,k4⟩ | ⟨rfl,k3⟩
    · exact ⟨a',true,G,.inl ⟨rfl,k3,Zc0 hf.cls k4⟩⟩
    · exact ⟨default,false,G,.inr ⟨rfl,Zb3 hf.cls k3⟩⟩
  · exact ⟨default,false,G _ e,.inr ⟨rfl,Zb3 hf.cls h⟩⟩
def LF (a:List Int) (v:Nat):Prop:=(v = 0 ∧ ∀ i,1 ≤ i → i < a.length → a.getD i 0 ≠ 0) ∨ (1 ≤ v ∧ v < a.length ∧ a.getD v 0 = 0 ∧ ∀ i,1 ≤ i → i < v → a.getD i 0 ≠ 0)
theorem LF.uniq {a:List Int} {v w:Nat} (h:LF a v) (h':LF a w):v = w:=by
 rcases h with ⟨h1,h2⟩ | ⟨h1,h2,h3,h4⟩ <;> rcases h' with ⟨k1,k2⟩ | ⟨k1,k2,k3,k4⟩
 ·omega
 ·exact absurd k3 (h2 w k1 k2)
 ·exact absurd h3 (k2 v h1 h2)
 ·by_cases e : v < w
  ·exact absurd h3 (k4 v h1 e)
  ·by_cases e' : w < v
   ·exact absurd k3 (h4 w k1 e')
   ·omega
theorem Zb5 {a q:List Int} {n:Nat} (hl:1 ≤ a.length ∧ a.length ≤ 1000) (hn:2000 ≤ n):∃ v:Nat,LF a v ∧ Zo n ⟨a,q⟩ = some (v:Int):=by
  have key:∀ (d i k:Nat),i + d = a.length → 1 ≤ i → (∀ j,1 ≤ j → j < i → a.getD j 0 ≠ 0) → d < k → ∃ r:Unit ⊕ Int,iterN (fun (s1:Int)=>
  if (decide (s1 < (len a))) then
   (get? a s1).bind fun x1=>
   if (x1 == 0) then
    some (.inr (.inr s1))
   else
    some (.inl ((w64 (s1 + 1))))
  else
   some (.inr (.inl ()))) k (i:Int) = some r ∧ ((r = .inl () ∧ LF a 0) ∨ ∃ v:Nat,r = .inr (v:Int) ∧ LF a v):=by
    intro d
    induction d with
    | zero =>
      intro i k hi h1 hp hk
      have hd:decide ((i:Int) < len a) = false:=by rw [Zc]; exact decide_eq_false (by omega)
      exact ⟨.inl (),Zu (by simp only [hd,ZfY,Zgv]) (by omega),.inl ⟨rfl,.inl ⟨rfl,fun j hj hj'=>hp j hj (by omega)⟩⟩⟩
    | succ d ih =>
      intro i k hi h1 hp hk
      obtain ⟨k,rfl⟩ : ∃ j,k = j + 1:=⟨k - 1,by omega⟩
      have hd:decide ((i:Int) < len a) = true:=by rw [Zc]; exact decide_eq_true (by omega)
      have hg:get? a (i:Int) = some (a.getD i 0):=by rw [get?_nat,Yf (by omega)]
      by_cases h0:a.getD i 0 = 0
      · exact ⟨.inr (i:Int),Zu (by simp only [hd,Zg6,hg,ZfT]; rw [Zga (by simpa using h0)]) (by omega),.inr ⟨i,rfl,.inr ⟨h1,by omega,h0,hp⟩⟩⟩
      · obtain ⟨r,q1,q2⟩:=ih (i + 1) k (by omega) (by omega) (fun j hj hj'=>by
          by_cases e:j = i
          · subst e; exact h0
          · exact hp j hj (by omega)) (by omega)
        refine ⟨r,?_,q2⟩
        rw [Xf (s':=((i + 1:Nat):Int)) (by
          simp only [hd,Zg6,hg,ZfT]
          rw [Zgb (by simpa using h0),Zd (by omega) (by omega)]; rfl)]
        exact q1
  obtain ⟨r,g1,g2⟩:=key (a.length - 1) 1 n (by omega) (by omega) (fun j hj hj'=>by omega) (by omega)
  have G:∀ z,r = z → Zo n ⟨a,q⟩ = (match z with | .inl _=>some 0 | .inr v=>some v):=fun z e=>by
    subst e
    unfold Zo
    exact congrArg (fun o=>Option.bind o (fun (rl1:Unit ⊕ Int)=>match rl1 with | .inl _=>some 0 | .inr v=>some v)) g1
  rcases g2 with ⟨e,h⟩ | ⟨v,e,h⟩
  · exact ⟨0,h,G _ e⟩
  · exact ⟨v,h,G _ e⟩
end
theorem XC:∀ (l l':List Int),l.length = l'.length → (∀ i:Nat,l'[i]? = some (0:Int) → l[i]? = some (0:Int)) → l'.count 0 ≤ l.count 0
 | [],[],_,_=>Zgp _
 | x :: l,y :: l',h,hi=>by
  have ih:=XC l l' (by simpa using h) fun i e=>by simpa using hi (i + 1) (by simpa using e)
  rw [Zis,Zis]
  by_cases hy:y = 0
  ·have : x = 0 := by simpa [hy] using hi 0
   rw [hy,this]; omega
  ·have : (y == 0) = false := by simpa using hy
   rw [this]
   simp only [ZfY,Zgv]
   omega
section
variable {f:D.Formula} {m:Nat} {occ:List (List Int)} {limit:Int}
theorem ZaQ {cs:List (List Int)} {v b:List Int} (hv:Asg m v) (h:Okc m cs (Sv m v) b):zer b ≤ zer v:=by
 refine XC v b (hv.len.trans h.asg.len.symm) fun i hi=>?_
 have hlt:i < b.length:=(ZfX.1 hi).1
 have hb0:b.getD i 0 = 0:=by
  have:=Yf hlt
  rw [hi] at this
  exact (Option.some.inj this).symm
 rw [Yf (by rw [hv.len,← h.asg.len]; exact hlt)]
 congr 1
 by_cases h0:i = 0
 ·subst h0; exact hv.nul
 have hlen:=h.asg.len
 have e:∀ c:List Int,lv c (i:Int) = c.getD i 0:=fun c=>by unfold lv; rw [Zgb (by omega)]; simp
 have en:∀ c:List Int,lv c (-(i:Int)) = -c.getD i 0:=fun c=>by rw [Yq (by omega),e]
 rcases hv.val i with h1 | h1 | h1
 ·have := h.ext (-(i : Int)) ⟨⟨by omega, by omega⟩, by rw [en, h1]; rfl⟩
  rw [en,hb0] at this; omega
 ·exact h1
 ·have := h.ext (i : Int) ⟨⟨by omega, by omega⟩, by rw [e, h1]⟩
  rw [e,hb0] at this; omega
noncomputable def lfr (a:List Int):Nat:=open Classical in if h:∃ v,LF a v then h.choose else 0
theorem Zcz {a:List Int} {v:Nat} (h:LF a v):lfr a = v:=by
 have hx:∃ v,LF a v:=⟨v,h⟩
 unfold lfr
 rw [dif_pos hx]
 exact hx.choose_spec.uniq h
noncomputable def srch (m:Nat) (cs:List (List Int)) (limit:Int):Nat → List Int → Int → Int × List Int × Int
 | 0,_,s=>(2,[],s)
 | d + 1,a,s=>if lfr a = 0 then (1,a,s) else if s = limit then (3,[],s) else
  let r:Int × List Int × Int:=match clo m cs (stA a (-(lfr a:Int))) with | none=>(2,[],s + 1) | some b=>srch m cs limit d b (s + 1)
  if r.1 = 2 then (match clo m cs (stA a (lfr a:Int)) with | none=>(2,[],r.2.2) | some b=>srch m cs limit d b r.2.2) else r
noncomputable def brn (m:Nat) (cs:List (List Int)) (limit:Int) (d:Nat) (v:List Int) (s:Int):Int × List Int × Int:=match clo m cs v with | none=>(2,[],s) | some b=>srch m cs limit d b s
theorem Xy (m:Nat) (cs:List (List Int)) (limit:Int) (d:Nat) (a:List Int) (s:Int):srch m cs limit (d + 1) a s = if lfr a = 0 then (1,a,s) else if s = limit then (3,[],s) else
  if (brn m cs limit d (stA a (-(lfr a:Int))) (s + 1)).1 = 2 then brn m cs limit d (stA a (lfr a:Int)) (brn m cs limit d (stA a (-(lfr a:Int))) (s + 1)).2.2 else brn m cs limit d (stA a (-(lfr a:Int))) (s + 1):=by
 rw [srch]; rfl
structure SOk (limit s:Int) (r:Int × List Int × Int):Prop where
 code:r.1 = 1 ∨ r.1 = 2 ∨ r.1 = 3
 nil:r.1 ≠ 1 → r.2.1 = []
 lo:s ≤ r.2.2
 hi:r.2.2 ≤ limit
theorem ZcM (m:Nat) (cs:List (List Int)) (limit:Int):∀ (d:Nat) (a:List Int) (s:Int),s ≤ limit → SOk limit s (srch m cs limit d a s)
 | 0,a,s,h=>⟨.inr (.inl rfl),fun _=>rfl,ZgC _,h⟩
 | d + 1,a,s,h=>by
  have hb:∀ v s',s' ≤ limit → SOk limit s' (brn m cs limit d v s'):=fun v s' h'=>by
   unfold brn
   cases clo m cs v with
   | none=>exact ⟨.inr (.inl rfl),fun _=>rfl,ZgC _,h'⟩
   | some b=>exact ZcM m cs limit d b s' h'
  rw [Xy]
  by_cases c1:lfr a = 0
  ·rw [Zga c1]; exact ⟨.inl rfl,fun h=>absurd rfl h,ZgC _,h⟩
  rw [Zgb c1]
  by_cases c2:s = limit
  ·rw [Zga c2]; exact ⟨.inr (.inr rfl),fun _=>rfl,ZgC _,h⟩
  rw [Zgb c2]
  have h1:=hb (stA a (-(lfr a:Int))) (s + 1) (by omega)
  by_cases c3:(brn m cs limit d (stA a (-(lfr a:Int))) (s + 1)).1 = 2
  ·rw [Zga c3]
   have h2:=hb (stA a (lfr a:Int)) _ h1.hi
   exact ⟨h2.code,h2.nil,by have:=h1.lo; have:=h2.lo; omega,h2.hi⟩
  ·rw [Zgb c3]
   exact ⟨h1.code,h1.nil,by have:=h1.lo; omega,h1.hi⟩
theorem Zex (m:Nat) (cs:List (List Int)) (limit:Int) (d:Nat) (v:List Int) (s:Int) (h:s ≤ limit):SOk limit s (brn m cs limit d v s):=by
 unfold brn
 cases clo m cs v with
 | none=>exact ⟨.inr (.inl rfl),fun _=>rfl,ZgC _,h⟩
 | some b=>exact ZcM m cs limit d b s h
def bls (a:List Int):List Bool:=(a.drop 1).map fun x=>decide (x > 0)
theorem ZcN {a:List Int} (h:Asg m a):(bls a).length = m:=by unfold bls; rw [ZhW,ZgP,h.len]; rfl
theorem Zcs {a:List Int} (hA:Asg m a) (hm:m ≤ 400) {n:Nat} (hn:2000 ≤ n):iterN (fun (s1:Int × (List Bool))=>
   if (decide (s1.1 < (len (List.replicate m false)))) then
    (get? a (w64 (s1.1 + 1))).bind fun x3=>
    (set? s1.2 s1.1 (decide (x3 > 0))).bind fun x4=>
    some (.inl ((w64 (s1.1 + 1)),x4))
   else
    some (.inr (s1.2))) n (0,List.replicate m false) = some (bls a):=by
  have hlen:=hA.len
  have key:∀ (d i k:Nat),i + d = m → d < k → iterN (fun (s1:Int × (List Bool))=>
   if (decide (s1.1 < (len (List.replicate m false)))) then
    (get? a (w64 (s1.1 + 1))).bind fun x3=>
    (set? s1.2 s1.1 (decide (x3 > 0))).bind fun x4=>
    some (.inl ((w64 (s1.1 + 1)),x4))
   else
    some (.inr (s1.2))) k ((i:Int),(bls a).take i ++ List.replicate d false) = some (bls a):=by
    intro d
    induction d with
    | zero =>
      intro i k hi hk
      have hd:decide ((i:Int) < len (List.replicate m false)) = false:=by rw [Zc,ZgZ]; exact decide_eq_false (by omega)
      refine Zu ?_ (by omega)
      simp only [hd,ZfY,Zgv]
      rw [List.replicate_zero,ZgD,ZgU (by rw [ZcN hA]; omega)]
    | succ d ih =>
      intro i k hi hk
      obtain ⟨k,rfl⟩ : ∃ j,k = j + 1:=⟨k - 1,by omega⟩
      have hd:decide ((i:Int) < len (List.replicate m false)) = true:=by rw [Zc,ZgZ]; exact decide_eq_true (by omega)
      have e1:w64 ((i:Int) + 1) = ((i + 1:Nat):Int):=by rw [Zd (by omega) (by omega)]; rfl
      have hil:i < (bls a).length:=by rw [ZcN hA]; omega
      have e2:(bls a)[i] = decide (a.getD (i + 1) 0 > 0):=by
        have e3:a.getD (i + 1) 0 = a[1 + i]'(by omega):=by
          rw [ZfW,show i + 1 = 1 + i from Nat.add_comm _ _,ZfV (by omega)]; rfl
        simp only [bls,List.getElem_map,List.getElem_drop,e3]
      have hlt:((bls a).take i).length = i:=by rw [Zgq]; omega
      rw [Xf (s':=(((i + 1:Nat):Int),(bls a).take (i + 1) ++ List.replicate d false)) (by
        simp only [hd,Zg6,e1]
        rw [get?_nat,Yf (by omega)]
        simp only [ZfT]
        unfold set?
        rw [Zga ⟨by omega,by rw [Zho,Zgh,hlt,ZgZ]; omega⟩,Zho]
        simp only [ZfT]
        congr 3
        rw [ZhL _ _ (by omega),hlt,ZhA,List.replicate_succ,ZhZ,Zg5 hil,e2,Zg2]; rfl)]
      exact ih (i + 1) k (by omega) (by omega)
  exact key m 0 n (by omega) (by omega)
theorem ZaI {a:List Int} (hA:Asg m a) {v:Nat} (h:LF a v) (h0:v ≠ 0):isL m (v:Int) ∧ isL m (-(v:Int)) ∧ lv a (v:Int) = 0 ∧ lv a (-(v:Int)) = 0:=by
 rcases h with ⟨h1,_⟩ | ⟨h1,h2,h3,_⟩
 ·exact absurd h1 h0
 ·have := hA.len
  have e:lv a (v:Int) = 0:=by unfold lv; rw [Zgb (by omega)]; simpa using h3
  exact ⟨⟨by omega,by omega⟩,⟨by omega,by omega⟩,e,by rw [Yq (by omega),e]; rfl⟩
theorem Zf9 (hf:FmP f m) (ho:OccP f m occ) (hl3:limit ≤ 3000):∀ (d:Nat) (a q:List Int) (s:Int) (mo:List Bool) (n:Nat),Asg m a → (∀ c ∈ f.Clauses,good a c) → zer a ≤ d → 4000000 + d ≤ n → 0 ≤ s → s ≤ limit →
    Zn n ⟨⟨f,occ⟩,limit,s,mo⟩ ⟨a,q⟩ = some ((srch m f.Clauses limit d a s).1,⟨⟨f,occ⟩,limit,(srch m f.Clauses limit d a s).2.2,if (srch m f.Clauses limit d a s).1 = 1 then bls (srch m f.Clauses limit d a s).2.1 else mo⟩):=by
  intro d
  induction d with
  | zero =>
    intro a q s mo n hA hg hz
    have:0 < zer a:=Zhh.2 (by
      have h1:=hA.nul
      have h2:=Yf (a:=a) (i:=0) (by have:=hA.len; omega)
      rw [h1] at h2
      exact Zgt h2)
    omega
  | succ d ih =>
    intro a q s mo n hA hg hz hn h0 hs
    obtain ⟨n,rfl⟩ : ∃ k,n = k + 1:=⟨n - 1,by omega⟩
    have hm:=hf.small
    have hlen:=hA.len
    obtain ⟨v,hv,e1⟩:=Zb5 (a:=a) (q:=q) (n:=n) (by omega) (by omega)
    rw [Zn,e1,Xy,Zcz hv]
    simp only [ZfT]
    by_cases c1:v = 0
    · rw [Zga (by simpa using c1), Zga c1]
      simp only [Zg6]
      rw [hf.vars,Zb6 (by omega)]
      simp only [ZfT]
      rw [Zcs hA hm (by omega)]; rfl
    · rw [Zgb (by simpa using c1), Zgb c1]
      by_cases c2:s = limit
      · rw [Zga (by simpa using c2),Zga c2]; rfl
      · rw [Zgb (by simpa using c2), Zgb c2]
        obtain ⟨k1,k2,k3,k4⟩:=ZaI hA hv c1
        have e3:w64 (0 - (v:Int)) = -(v:Int):=by have:=k1.2; rw [Zd (by omega) (by omega)]; omega
        have e4:w64 (s + 1) = s + 1:=Zd (by omega) (by omega)
        have one:∀ (l:Int),isL m l → lv a l = 0 → ∀ (s':Int) (mo':List Bool),0 ≤ s' → s' ≤ limit →
            ∃ a' b, Zh n ⟨f, occ⟩ ⟨a, q⟩ l = some (a', b) ∧ ((b = false ∧ brn m f.Clauses limit d (stA a l) s' = (2, [], s')) ∨
              (b = true ∧ Zn n ⟨⟨f,occ⟩,limit,s',mo'⟩ a' = some ((brn m f.Clauses limit d (stA a l) s').1,⟨⟨f,occ⟩,limit,(brn m f.Clauses limit d (stA a l) s').2.2,if (brn m f.Clauses limit d (stA a l) s').1 = 1 then bls (brn m f.Clauses limit d (stA a l) s').2.1 else mo'⟩))):=fun l hl hl0 s' mo' hs0 hs1=>by
          obtain ⟨a',b,g1,g2⟩:=ZdK hf ho (n:=n) (by omega) (q:=q) hA hg hl hl0
          refine ⟨a',b,g1,?_⟩
          rcases g2 with ⟨rfl,g3,g4⟩ | ⟨rfl,g3⟩
          · have hok := YO g4
            have hz1:=X3 hA hl hl0
            have hz2:=ZaQ (Zaj hA hl) hok
            refine .inr ⟨rfl,?_⟩
            have:=ih a'.val a'.queue s' mo' n hok.asg hok.cl (by omega) (by omega) hs0 hs1
            unfold brn
            rw [g4]
            exact this
          · exact .inl ⟨rfl,by unfold brn; rw [g3]⟩
        generalize hQ:(if (brn m f.Clauses limit d (stA a (-(v:Int))) (s + 1)).1 = 2 then brn m f.Clauses limit d (stA a (v:Int)) (brn m f.Clauses limit d (stA a (-(v:Int))) (s + 1)).2.2 else brn m f.Clauses limit d (stA a (-(v:Int))) (s + 1)) = Q
        have hb1:=Zex m f.Clauses limit d (stA a (-(v:Int))) (s + 1) (by omega)
        have key:∃ r:(Int × Int × (List Bool)) ⊕ (Int × D.searcher),iterN (fun (s2:Int × Int × Int × (List Bool))=>
    if (decide (s2.1 < 2)) then
     (get? ([(w64 (0 - (v:Int))),(v:Int)]:List Int) s2.1).bind fun x5=>
     (Zh n ⟨f,occ⟩ ⟨a,q⟩ x5).bind fun x6=>
     if (!x6.2) then
      some (.inl ((w64 (s2.1 + 1)),s2.2.1,s2.2.2.1,s2.2.2.2))
     else
      (Zn n (D.searcher.mk ⟨f,occ⟩ s2.2.1 s2.2.2.1 s2.2.2.2) x6.1).bind fun x7=>
      if (x7.1 != 2) then
       some (.inr (.inr (x7.1,(D.searcher.mk ⟨f,occ⟩ x7.2.limit x7.2.splits x7.2.model))))
      else
       some (.inl ((w64 (s2.1 + 1)),x7.2.limit,x7.2.splits,x7.2.model))
    else
     some (.inr (.inl (s2.2.1, s2.2.2.1, s2.2.2.2)))) n (0, limit, w64 (s + 1), mo) = some r ∧
          (match r with | .inl s2r=>some (2,(D.searcher.mk ⟨f,occ⟩ s2r.1 s2r.2.1 s2r.2.2)) | .inr v=>some v) = some (Q.1,(⟨⟨f,occ⟩,limit,Q.2.2,if Q.1 = 1 then bls Q.2.1 else mo⟩ : D.searcher)):=by
          rw [e3,e4]
          obtain ⟨k,rfl⟩ : ∃ j,n = j + 3:=⟨n - 3,by omega⟩
          generalize hR1:brn m f.Clauses limit d (stA a (-(v:Int))) (s + 1) = R1 at *
          have second:∀ s':Int,0 ≤ s' → s' ≤ limit → ∃ r:(Int × Int × (List Bool)) ⊕ (Int × D.searcher),iterN (fun (s2:Int × Int × Int × (List Bool))=>
    if (decide (s2.1 < 2)) then
     (get? ([-(v:Int),(v:Int)]:List Int) s2.1).bind fun x5=>
     (Zh (k + 3) ⟨f,occ⟩ ⟨a,q⟩ x5).bind fun x6=>
     if (!x6.2) then
      some (.inl ((w64 (s2.1 + 1)),s2.2.1,s2.2.2.1,s2.2.2.2))
     else
      (Zn (k + 3) (D.searcher.mk ⟨f,occ⟩ s2.2.1 s2.2.2.1 s2.2.2.2) x6.1).bind fun x7=>
      if (x7.1 != 2) then
       some (.inr (.inr (x7.1,(D.searcher.mk ⟨f,occ⟩ x7.2.limit x7.2.splits x7.2.model))))
      else
       some (.inl ((w64 (s2.1 + 1)),x7.2.limit,x7.2.splits,x7.2.model))
    else
     some (.inr (.inl (s2.2.1,s2.2.2.1,s2.2.2.2)))) (k + 2) (1,limit,s',mo) = some r ∧
              (match r with | .inl s2r=>some (2,(D.searcher.mk ⟨f,occ⟩ s2r.1 s2r.2.1 s2r.2.2)) | .inr v=>some v) = some ((brn m f.Clauses limit d (stA a (v:Int)) s').1,(⟨⟨f,occ⟩,limit,(brn m f.Clauses limit d (stA a (v:Int)) s').2.2,if (brn m f.Clauses limit d (stA a (v:Int)) s').1 = 1 then bls (brn m f.Clauses limit d (stA a (v:Int)) s').2.1 else mo⟩ : D.searcher)):=fun s' hs0 hs1=>by
            obtain ⟨a',b,g1,g2⟩:=one (v:Int) k1 k3 s' mo hs0 hs1
            have hw:w64 (1 + 1) = 2:=by decide
            rcases g2 with ⟨rfl,g3⟩ | ⟨rfl,g3⟩
            · refine ⟨.inl (limit, s', mo), ?_, by rw [g3]; rfl⟩
              rw [show k + 2 = (k + 1) + 1 from rfl,Xf (s':=(2,limit,s',mo)) (by
                show ((Zh (k + 3) ⟨f,occ⟩ ⟨a,q⟩ (v:Int)).bind _) = _
                rw [g1]
                simp only [ZfT,ZgY,Zg6,hw])]
              exact Zu rfl (by omega)
            · generalize brn m f.Clauses limit d (stA a (v : Int)) s' = R at *
              by_cases c:R.1 = 2
              · refine ⟨.inl (limit, R.2.2, mo), ?_, by rw [c, Zgb (by decide)]⟩
                rw [show k + 2 = (k + 1) + 1 from rfl,Xf (s':=(2,limit,R.2.2,mo)) (by
                  show ((Zh (k + 3) ⟨f,occ⟩ ⟨a,q⟩ (v:Int)).bind _) = _
                  rw [g1]
                  simp only [ZfT,Zgr,ZfY,Zgv]
                  rw [g3]
                  simp only [ZfT]
                  rw [Zgb (by rw [c]; decide),Zgb (show ¬ R.1 = 1 by omega),hw])]
                exact Zu rfl (by omega)
              · refine ⟨.inr (R.1, ⟨⟨f, occ⟩, limit, R.2.2, if R.1 = 1 then bls R.2.1 else mo⟩), ?_, rfl⟩
                refine Zu ?_ (by omega)
                show ((Zh (k + 3) ⟨f,occ⟩ ⟨a,q⟩ (v:Int)).bind _) = _
                rw [g1]
                simp only [ZfT,Zgr,ZfY,Zgv]
                rw [g3]
                simp only [ZfT]
                rw [Zga (by simpa using c)]
          obtain ⟨a',b,g1,g2⟩:=one (-(v:Int)) k2 k4 (s + 1) mo (by omega) (by omega)
          rw [hR1] at g2
          have hw:w64 (0 + 1) = 1:=by decide
          rcases g2 with ⟨rfl,g3⟩ | ⟨rfl,g3⟩
          · obtain ⟨r, q1, q2⟩ := second (s + 1) (by omega) (by omega)
            refine ⟨r,?_,?_⟩
            · rw [show k + 3 = (k + 2) + 1 from rfl,Xf (s':=(1,limit,s + 1,mo)) (by
                show ((Zh (k + 3) ⟨f,occ⟩ ⟨a,q⟩ (-(v:Int))).bind _) = _
                rw [g1]
                simp only [ZfT,ZgY,Zg6,hw])]
              exact q1
            · rw [← hQ,g3,Zga rfl]; exact q2
          · by_cases c : R1.1 = 2
            · obtain ⟨r, q1, q2⟩ := second R1.2.2 (by have := hb1.lo; omega) hb1.hi
              refine ⟨r,?_,?_⟩
              · rw [show k + 3 = (k + 2) + 1 from rfl,Xf (s':=(1,limit,R1.2.2,mo)) (by
                  show ((Zh (k + 3) ⟨f,occ⟩ ⟨a,q⟩ (-(v:Int))).bind _) = _
                  rw [g1]
                  simp only [ZfT,Zgr,ZfY,Zgv]
                  rw [g3]
                  simp only [ZfT]
                  rw [Zgb (by rw [c]; decide),Zgb (show ¬ R1.1 = 1 by omega),hw])]
                exact q1
              · rw [← hQ,Zga c]; exact q2
            · refine ⟨.inr (R1.1, ⟨⟨f, occ⟩, limit, R1.2.2, if R1.1 = 1 then bls R1.2.1 else mo⟩), ?_, by rw [← hQ, Zgb c]⟩
              refine Zu ?_ (by omega)
              show ((Zh (k + 3) ⟨f,occ⟩ ⟨a,q⟩ (-(v:Int))).bind _) = _
              rw [g1]
              simp only [ZfT,Zgr,ZfY,Zgv]
              rw [g3]
              simp only [ZfT]
              rw [Zga (by simpa using c)]
        obtain ⟨r,q1,q2⟩:=key
        refine Eq.trans ?_ q2
        exact congrArg (fun o=>Option.bind o (fun (rl2:(Int × Int × (List Bool)) ⊕ (Int × D.searcher))=>match rl2 with | .inl s2r=>some (2,(D.searcher.mk ⟨f,occ⟩ s2r.1 s2r.2.1 s2r.2.2)) | .inr v=>some v)) q1
end
section
variable {f:D.Formula} {m:Nat} {limit:Int}
noncomputable def serP (f:D.Formula) (m:Nat) (limit:Int):Int × List Bool × Int:=
 let r:=brn m f.Clauses limit (m + 1) (List.replicate (m + 1) 0) 0
 (r.1,if r.1 = 1 then bls r.2.1 else [],r.2.2)
theorem Zb8 {a:List Int} (hA:Asg m a):zer a ≤ m + 1:=by
 have:=ZhO (a:=(0:Int)) (l:=a)
 have:=hA.len
 unfold zer; omega
theorem ZbF (hf:FmP f m) (h0:0 ≤ limit) (hl3:limit ≤ 3000) {n:Nat} (hn:4002000 ≤ n) (hk:Zv n f = some true):Yd n f [] limit = some (serP f m limit):=by
 have hm:=hf.small
 obtain ⟨occ,e1,ho⟩:=ZcD hf (n:=n) (by omega)
 have e0:Zw n [] f.Vars = some true:=by
  unfold Zw
  rw [Zu (r:=.inl ()) (by simp [len]) (by omega)]; rfl
 have e2:Yy limit = some true:=by unfold Yy; simp; omega
 unfold Yd
 rw [hk]
 simp only [ZfT,Zgr,ZfY,Zgv,Zgy,e0,e2,e1]
 obtain ⟨a',b,g1,g2⟩:=start_eq hf ho (n:=n) (by omega)
 unfold ZQ serP brn
 rw [g1]
 simp only [ZfT]
 rcases g2 with ⟨rfl,g3,g4⟩ | ⟨rfl,g4⟩
 ·have hok := YO g4
  rw [Zgb (by decide),g4]
  have:=Zf9 hf ho hl3 (m + 1) a'.val a'.queue 0 [] n hok.asg hok.cl (Zb8 hok.asg) (by omega) (by omega) h0
  rw [show a' = ⟨a'.val,a'.queue⟩ from rfl,this]; rfl
 ·rw [Zga (by decide),g4]; rfl
end
def tr (M:Nat → Bool) (x:Int):Bool:=if x < 0 then !M x.natAbs else M x.natAbs
theorem Xc {M:Nat → Bool} {x:Int} (h:x ≠ 0):tr M (-x) = !tr M x:=by
 unfold tr
 rw [ZhI]
 by_cases c:x < 0
 ·rw [Zgb (by omega),Zga c,Bool.not_not]
 ·rw [Zga (by omega),Zgb c]
def Sat (M:Nat → Bool) (cs:List (List Int)):Prop:=∀ c ∈ cs,∃ x ∈ c,tr M x = true
def Ext (m:Nat) (M:Nat → Bool) (a:List Int):Prop:=∀ x,isL m x → lv a x = 1 → tr M x = true
section
variable {f:D.Formula} {m:Nat} {limit:Int} {M:Nat → Bool} {cs:List (List Int)}
theorem ZdX {S:Int → Prop} (hcs:∀ c ∈ cs,ClM m c) (hM:Sat M cs) (hS:∀ x,S x → tr M x = true) {x:Int} (hd:Der cs S x):tr M x = true:=by
 induction hd with
 | base hx=>exact hS _ hx
 | @unit c x hc hx _ ih=>
  obtain ⟨y,hy,hy1⟩:=hM c hc
  by_cases e:y = x
  ·rw [← e]; exact hy1
  ·have := ih y hy e
   rw [Xc ((hcs c hc).lit y hy).1,hy1] at this
   cases this
theorem ZfG {S:Int → Prop} (hcs:∀ c ∈ cs,ClM m c) (hM:Sat M cs) (hS:∀ x,S x → tr M x = true) (hb:Bad cs S):False:=by
 obtain ⟨c,hc,h⟩:=hb
 obtain ⟨y,hy,hy1⟩:=hM c hc
 have:=ZdX hcs hM hS (h y hy)
 rw [Xc ((hcs c hc).lit y hy).1,hy1] at this
 cases this
theorem Za7 {v b:List Int} (hcs:∀ c ∈ cs,ClM m c) (hM:Sat M cs) (hv:Ext m M v) (h:clo m cs v = some b):Ext m M b:=fun x hx h1=>
 ZdX hcs hM (fun y hy=>hv y hy.1 hy.2) ((YO h).snd x hx h1)
theorem ZeT {S:Int → Prop} (hcs:∀ c ∈ cs,ClM m c) (hS:∀ x,S x → isL m x):∀ (n:Nat) (a:List Int),zer a ≤ n → Way m cs S a → (∃ b,Okc m cs S b) ∨ Bad cs S:=by
 intro n
 induction n with
 | zero=>
  intro a hz hw
  have:0 < zer a:=Zhh.2 (by
   have h1:=hw.asg.nul
   have h2:=Yf (a:=a) (i:=0) (by have:=hw.asg.len; omega)
   rw [h1] at h2
   exact Zgt h2)
  omega
 | succ n ih=>
  intro a hz hw
  by_cases h:∀ c ∈ cs,good a c
  ·exact .inl ⟨a,hw.asg,hw.ext,hw.snd,h⟩
  ·obtain ⟨c, hc⟩ := Classical.not_forall.1 h
   obtain ⟨hc,hg⟩:=Classical.not_imp.1 hc
   have hm:=hcs c hc
   have hn:∀ x ∈ c,lv a x ≠ 1:=fun x hx e=>hg (.inl ⟨x,hx,e⟩)
   cases hfr:free a c with
   | nil=>exact .inr (Zcb hw.asg hw.snd hc hm hn hfr)
   | cons l rest=>
    cases rest with
    | cons y r=>exact absurd (ZbP hm (by rw [hfr]; simp)) hg
    | nil=>
     obtain ⟨w1,hl,h0,-⟩:=hw.unit hS hc hm hn hfr
     have:=X3 hw.asg hl h0
     exact ih _ (by omega) w1
theorem Ze0 (hf:FmP f m) {v:List Int} (hA:Asg m v) (h:clo m f.Clauses v = none) (hM:Sat M f.Clauses):¬ Ext m M v:=fun hv=>by
 rcases ZeT hf.cls Zb0 _ v (Zgp _) (ZaC (cs:=f.Clauses) hA) with ⟨b,hb⟩ | hb
 ·rw [Zc0 hf.cls hb] at h; cases h
 ·exact ZfG hf.cls hM (fun y hy=>hv y hy.1 hy.2) hb
theorem Zbz {a:List Int} (hA:Asg m a) (hv:Ext m M a) {l:Int} (hl:isL m l) (h0:lv a l = 0) (h:tr M l = true):Ext m M (stA a l):=fun x hx h1=>by
 rw [YM hA.len hl hx.1] at h1
 split at h1
 ·rename_i e; rw [e]; exact h
 ·split at h1
  ·cases h1
  ·exact hv x hx h1
def mdl (a:List Int) (v:Nat):Bool:=decide (a.getD v 0 = 1)
def Le (m:Nat) (M M':Nat → Bool):Prop:=(∀ v,1 ≤ v → v ≤ m → M v = M' v) ∨ ∃ v,1 ≤ v ∧ v ≤ m ∧ (∀ u,1 ≤ u → u < v → M u = M' u) ∧ M v = false ∧ M' v = true
structure Full (m:Nat) (cs:List (List Int)) (b:List Int):Prop where
 asg:Asg m b
 cl:∀ c ∈ cs,good b c
 all:LF b 0
theorem Full.val {b:List Int} (h:Full m cs b) {x:Int} (hx:isL m x):lv b x ≠ 0:=by
 have hl:=h.asg.len
 rcases h.all with ⟨-,h1⟩ | ⟨h1,_⟩
 ·have := h1 x.natAbs (by have := hx.1; omega) (by have := hx.2; omega)
  unfold lv
  split <;> omega
 ·omega
theorem Full.tr {b:List Int} (h:Full m cs b) {x:Int} (hx:isL m x):tr (mdl b) x = decide (lv b x = 1):=by
 have h0:=h.val hx
 have hv:=h.asg.val x.natAbs
 unfold Sv.tr mdl
 unfold lv at h0 ⊢
 by_cases c:x < 0
 ·rw [Zga c] at h0 ⊢
  rw [Zga c]
  rcases hv with e | e | e <;> rw [e] at h0 ⊢ <;> first | rfl | exact absurd rfl h0
 ·rw [Zgb c] at h0 ⊢
  rw [Zgb c]
theorem Full.sat {b:List Int} (hcs:∀ c ∈ cs,ClM m c) (h:Full m cs b):Sat (mdl b) cs:=fun c hc=>by
 rcases h.cl c hc with ⟨x,hx,h1⟩ | ⟨x,hx,y,hy,hne,h1,h2⟩
 ·exact ⟨x,hx,by rw [h.tr ((hcs c hc).lit x hx),h1]; rfl⟩
 ·exact absurd h1 (h.val ((hcs c hc).lit x hx))
structure First (m:Nat) (cs:List (List Int)) (a:List Int) (r:Int × List Int × Int):Prop where
 yes:r.1 = 1 → Full m cs r.2.1 ∧ (∀ x,isL m x → lv a x = 1 → lv r.2.1 x = 1) ∧ ∀ M,Sat M cs → Ext m M a → Le m (mdl r.2.1) M
 no:r.1 = 2 → ∀ M,Sat M cs → ¬ Ext m M a
theorem agree {a b:List Int} (hb:Full m cs b) (hx:∀ x,isL m x → lv a x = 1 → lv b x = 1) (hM:Ext m M a) {u:Nat} (h1:1 ≤ u) (h2:u ≤ m) (h0:a.getD u 0 ≠ 0) (hA:Asg m a):mdl b u = M u:=by
 have L1:isL m (u:Int):=⟨by omega,by omega⟩
 have L2:isL m (-(u:Int)):=⟨by omega,by omega⟩
 have e:∀ c:List Int,lv c (u:Int) = c.getD u 0:=fun c=>by unfold lv; rw [Zgb (by omega)]; simp
 have t1:∀ N:Nat → Bool,tr N (u:Int) = N u:=fun N=>by unfold tr; rw [Zgb (by omega)]; simp
 have t2:∀ N:Nat → Bool,tr N (-(u:Int)) = !N u:=fun N=>by rw [Xc L1.1,t1]
 rcases hA.val u with h | h | h
 ·have a1 : lv a (-(u : Int)) = 1 := by rw [Yq L1.1, e, h]; rfl
  have a2:=hM _ L2 a1
  have a3:=hb.tr L2
  rw [hx _ L2 a1,t2] at a3
  rw [t2] at a2
  cases hq:mdl b u <;> cases hp:M u <;> simp [hq,hp] at a2 a3 ⊢
 ·exact absurd h h0
 ·have a1 : lv a (u : Int) = 1 := by rw [e, h]
  have a2:=hM _ L1 a1
  have a3:=hb.tr L1
  rw [hx _ L1 a1,t1] at a3
  rw [t1] at a2
  rw [a2,a3]; rfl
theorem ZcG (hf:FmP f m):∀ (d:Nat) (a:List Int) (s:Int),Asg m a → (∀ c ∈ f.Clauses,good a c) → zer a ≤ d → First m f.Clauses a (srch m f.Clauses limit d a s):=by
 intro d
 induction d with
 | zero=>
  intro a s hA hg hz
  have:0 < zer a:=Zhh.2 (by
   have h1:=hA.nul
   have h2:=Yf (a:=a) (i:=0) (by have:=hA.len; omega)
   rw [h1] at h2
   exact Zgt h2)
  omega
 | succ d ih=>
  intro a s hA hg hz
  obtain ⟨w,hw,-⟩:=Zb5 (a:=a) (q:=[]) (n:=2000) (by have:=hA.len; have:=hf.small; omega) (Zgp _)
  rw [Xy,Zcz hw]
  by_cases c1:w = 0
  ·rw [Zga c1]
   subst c1
   refine ⟨fun _=>⟨⟨hA,hg,hw⟩,fun _ _ h=>h,fun M _ hM=>.inl fun v h1 h2=>?_⟩,fun h=>(by cases h)⟩
   have F:Full m f.Clauses a:=⟨hA,hg,hw⟩
   have hv:=F.val (x:=(v:Int)) ⟨by omega,by omega⟩
   exact agree F (fun _ _ h=>h) hM h1 h2 (by unfold lv at hv; rw [Zgb (by omega)] at hv; simpa using hv) hA
  rw [Zgb c1]
  by_cases c2:s = limit
  ·rw [Zga c2]; exact ⟨fun h=>(by cases h),fun h=>(by cases h)⟩
  rw [Zgb c2]
  obtain ⟨k1,k2,k3,k4⟩:=ZaI hA hw c1
  have hwm:1 ≤ w ∧ w ≤ m:=by have:=k1.2; omega
  have t1:∀ N:Nat → Bool,tr N (w:Int) = N w:=fun N=>by unfold tr; rw [Zgb (by omega)]; simp
  have t2:∀ N:Nat → Bool,tr N (-(w:Int)) = !N w:=fun N=>by rw [Xc k1.1,t1]
  have below:∀ u,1 ≤ u → u < w → a.getD u 0 ≠ 0:=fun u h1 h2=>by
   rcases hw with ⟨h,_⟩ | ⟨_,_,_,h⟩
   ·exact absurd h c1
   ·exact h u h1 h2
  have one:∀ (l:Int) (s':Int),isL m l → lv a l = 0 → First m f.Clauses (stA a l) (brn m f.Clauses limit d (stA a l) s') ∧ ∀ x,isL m x → lv a x = 1 → lv (stA a l) x = 1:=fun l s' hl h0=>by
   have hA1:=Zaj hA hl
   have hz1:=X3 hA hl h0
   refine ⟨?_,fun x hx h=>by rw [XW hA hl h0 hx.1 (by rw [h]; decide)]; exact h⟩
   unfold brn
   cases hc:clo m f.Clauses (stA a l) with
   | none=>exact ⟨fun h=>(by cases h),fun _ M hM=>Ze0 hf hA1 hc hM⟩
   | some b=>
    have hok:=YO hc
    have hz2:=ZaQ hA1 hok
    obtain ⟨i1,i2⟩:=ih b s' hok.asg hok.cl (by omega)
    refine ⟨fun h=>?_,fun h M hM hv=>i2 h M hM (Za7 hf.cls hM hv hc)⟩
    obtain ⟨j1,j2,j3⟩:=i1 h
    exact ⟨j1,fun x hx h1=>j2 x hx (hok.ext x ⟨hx,h1⟩),fun M hM hv=>j3 M hM (Za7 hf.cls hM hv hc)⟩
  obtain ⟨⟨p1,p2⟩,p3⟩:=one (-(w:Int)) (s + 1) k2 k4
  by_cases c:(brn m f.Clauses limit d (stA a (-(w:Int))) (s + 1)).1 = 2
  ·rw [Zga c]
   obtain ⟨⟨q1,q2⟩,q3⟩:=one (w:Int) (brn m f.Clauses limit d (stA a (-(w:Int))) (s + 1)).2.2 k1 k3
   have must:∀ M,Sat M f.Clauses → Ext m M a → Ext m M (stA a (w:Int)):=fun M hM hv=>by
    refine Zbz hA hv k1 k3 ?_
    cases h:tr M (w:Int) with
    | true=>rfl
    | false=>exact absurd (Zbz hA hv k2 k4 (by rw [Xc k1.1,h]; rfl)) (p2 c M hM)
   refine ⟨fun h=>?_,fun h M hM hv=>q2 h M hM (must M hM hv)⟩
   obtain ⟨j1,j2,j3⟩:=q1 h
   exact ⟨j1,fun x hx h1=>j2 x hx (q3 x hx h1),fun M hM hv=>j3 M hM (must M hM hv)⟩
  ·rw [Zgb c]
   refine ⟨fun h=>?_,fun h=>absurd h c⟩
   obtain ⟨j1,j2,j3⟩:=p1 h
   have ex:∀ x,isL m x → lv a x = 1 → lv (brn m f.Clauses limit d (stA a (-(w:Int))) (s + 1)).2.1 x = 1:=fun x hx h1=>j2 x hx (p3 x hx h1)
   refine ⟨j1,ex,fun M hM hv=>?_⟩
   cases h:tr M (w:Int) with
   | false=>exact j3 M hM (Zbz hA hv k2 k4 (by rw [Xc k1.1,h]; rfl))
   | true=>
    refine .inr ⟨w,hwm.1,hwm.2,fun u h1 h2=>agree j1 ex hv h1 (by omega) (below u h1 h2) hA,?_,by rw [t1] at h; exact h⟩
    have e1:lv (stA a (-(w:Int))) (-(w:Int)) = 1:=by rw [YM hA.len k2 k2.1,Zga rfl]
    have e2:=j1.tr k2
    rw [j2 _ k2 e1,t2] at e2
    cases hq:mdl (brn m f.Clauses limit d (stA a (-(w:Int))) (s + 1)).2.1 w with
    | false=>rfl
    | true=>rw [hq] at e2; cases e2
theorem ZdI (hf:FmP f m) {v:List Int} (hA:Asg m v) (s:Int):First m f.Clauses v (brn m f.Clauses limit (m + 1) v s):=by
 unfold brn
 cases hc:clo m f.Clauses v with
 | none=>exact ⟨fun h=>(by cases h),fun _ M hM=>Ze0 hf hA hc hM⟩
 | some b=>
  have hok:=YO hc
  obtain ⟨i1,i2⟩:=ZcG (limit:=limit) hf (m + 1) b s hok.asg hok.cl (Zb8 hok.asg)
  refine ⟨fun h=>?_,fun h M hM hv=>i2 h M hM (Za7 hf.cls hM hv hc)⟩
  obtain ⟨j1,j2,j3⟩:=i1 h
  exact ⟨j1,fun x hx h1=>j2 x hx (hok.ext x ⟨hx,h1⟩),fun M hM hv=>j3 M hM (Za7 hf.cls hM hv hc)⟩
end
open Cc (CircP lines litN iab accF stepF)
def vm (w:List Bool) (i:Nat):Bool:=w.getD (i - 1) false
theorem Zf3 {w u:List Bool} {i:Nat} (h1:1 ≤ i) (h:i ≤ w.length):vm (w ++ u) i = vm w i:=by
 unfold vm
 rw [ZfW,ZfW,Zge (by omega)]
theorem Zcu {w u:List Bool} {x:Int} (h0:x ≠ 0) (h:x.natAbs ≤ w.length):tr (vm (w ++ u)) x = tr (vm w) x:=by
 unfold tr
 rw [Zf3 (by omega) h]
def evalG:List D.Gate → List Bool → List Bool
 | [],w=>w
 | g :: gs,w=>evalG gs (w ++ [tr (vm w) g.A && tr (vm w) g.B])
theorem Xe (g:D.Gate):∀ (gs:List D.Gate) (w:List Bool),evalG (gs ++ [g]) w = evalG gs w ++ [tr (vm (evalG gs w)) g.A && tr (vm (evalG gs w)) g.B]
 | [],_=>rfl
 | h :: gs,w=>by rw [ZhM,evalG,Xe g gs]; rfl
theorem Xa:∀ (gs:List D.Gate) (w:List Bool),(evalG gs w).length = w.length + gs.length
 | [],_=>rfl
 | h :: gs,w=>by rw [evalG,Xa gs,Zgh,Zg9]; simp only [Zg9,ZhG]; omega
theorem YK:∀ (gs:List D.Gate) (w:List Bool),∃ u,evalG gs w = w ++ u
 | [],w=>⟨[],by rw [evalG,ZgD]⟩
 | h :: gs,w=>by
  obtain ⟨u,e⟩:=YK gs (w ++ [tr (vm w) h.A && tr (vm w) h.B])
  exact ⟨[tr (vm w) h.A && tr (vm w) h.B] ++ u,by rw [evalG,e,Zg2]⟩
theorem ZeI {M:Nat → Bool} {a b l:Int} (ha:a ≠ 0) (hb:b ≠ 0) (hl:l ≠ 0):((∃ x ∈ [a,-l],tr M x = true) ∧ (∃ x ∈ [b,-l],tr M x = true) ∧ ∃ x ∈ [-a,-b,l],tr M x = true) ↔ tr M l = (tr M a && tr M b):=by
 simp only [Zgz,ZgE,or_false,exists_eq_or_imp,exists_eq_left,Xc ha,Xc hb,Xc hl]
 cases tr M a <;> cases tr M b <;> cases tr M l <;> simp
theorem Zfp {c:D.Circuit} (hc:CircP c) {M:Nat → Bool}:∀ k,k ≤ c.Gates.length → (Sat M (accF c k) ↔ M 1 = true ∧ ∀ i (h:i < c.Gates.length),i < k → tr M (c.Inputs + 2 + (i:Int)) = (tr M c.Gates[i].A && tr M c.Gates[i].B)):=by
 intro k
 induction k with
 | zero=>
  intro _
  have:tr M 1 = M 1:=rfl
  refine ⟨fun h=>?_,fun h c hc=>?_⟩
  ·obtain ⟨x, hx, h1⟩ := h [1] (by simp [accF])
   rw [Zgo] at hx
   rw [hx] at h1
   exact ⟨h1,fun i _ h=>by omega⟩
  ·simp only [accF, Zgo] at hc
   subst hc
   exact ⟨1,by simp,h.1⟩
 | succ k ih=>
  intro hk
  have hkl:k < c.Gates.length:=by omega
  have eg:c.Gates.getD k ⟨0,0⟩ = c.Gates[k]:=by rw [ZfW,ZfV hkl]; rfl
  have o:=Cc.gate_ok hc (ZfV hkl)
  have na:c.Gates[k].A ≠ 0:=fun e=>by have:=(Cc.litN_iff.1 o.a).1; rw [e] at this; revert this; decide
  have nb:c.Gates[k].B ≠ 0:=fun e=>by have:=(Cc.litN_iff.1 o.b).1; rw [e] at this; revert this; decide
  have nl:c.Inputs + 2 + (k:Int) ≠ 0:=by have:=hc.i0; omega
  have hS:Sat M (accF c (k + 1)) ↔ Sat M (accF c k) ∧ tr M (c.Inputs + 2 + (k:Int)) = (tr M c.Gates[k].A && tr M c.Gates[k].B):=by
   rw [← ZeI na nb nl]
   unfold Sat
   rw [accF,eg]
   simp only [Zgu]
   constructor
   ·intro h
    refine ⟨fun x hx=>h x (.inl hx),h _ (.inr ?_),h _ (.inr ?_),h _ (.inr ?_)⟩ <;> unfold stepF <;> simp
   ·rintro ⟨h1, h2, h3, h4⟩ x (hx | hx)
    ·exact h1 x hx
    ·unfold stepF at hx
     simp only [Zgz,ZgE,or_false] at hx
     rcases hx with rfl | rfl | rfl
     ·exact h2
     ·exact h3
     ·exact h4
  rw [hS,ih (by omega)]
  constructor
  ·rintro ⟨⟨h1, h2⟩, h3⟩
   refine ⟨h1,fun i hi hlt=>?_⟩
   by_cases e:i = k
   ·subst e; exact h3
   ·exact h2 i hi (by omega)
  ·rintro ⟨h1, h2⟩
   exact ⟨⟨h1,fun i hi hlt=>h2 i hi (by omega)⟩,h2 k hkl (by omega)⟩
theorem Za9 {c:D.Circuit} (hc:CircP c) {w:List Bool} (hw:(w.length:Int) = lines c):Sat (vm w) (accF c c.Gates.length) ↔ w = evalG c.Gates (true :: (w.drop 1).take c.Inputs.toNat):=by
 have hi0:=hc.i0
 have hL:(w.length:Int) = c.Inputs + 1 + c.Gates.length:=hw
 have hI:((c.Inputs.toNat:Nat):Int) = c.Inputs:=by omega
 generalize hn:c.Inputs.toNat = I at hI ⊢
 rw [Zfp hc _ (Zgp _)]
 have len0:(true :: (w.drop 1).take I).length = I + 1:=by rw [Zg9,Zgq,ZgP]; omega
 have lenk:∀ k,k ≤ c.Gates.length → (evalG (c.Gates.take k) (true :: (w.drop 1).take I)).length = I + 1 + k:=fun k hk=>by rw [Xa,len0,Zgq]; omega
 have small:∀ k (h:k < c.Gates.length),(c.Gates[k].A ≠ 0 ∧ c.Gates[k].A.natAbs ≤ I + 1 + k) ∧ c.Gates[k].B ≠ 0 ∧ c.Gates[k].B.natAbs ≤ I + 1 + k:=fun k h=>by
  have o:=Cc.gate_ok hc (ZfV h)
  have a1:=(Cc.litN_iff.1 o.a).1
  have b1:=(Cc.litN_iff.1 o.b).1
  have a2:=o.al'
  have b2:=o.bl'
  rw [Cc.iab_neg] at a2 b2
  have e1:iab (c.Inputs + 2 + (k:Int)) = c.Inputs + 2 + (k:Int):=by unfold iab; rw [Zgb (by omega)]
  rw [e1] at a2 b2
  have ia:∀ x:Int,iab x = (x.natAbs:Int):=fun x=>by unfold iab; split <;> omega
  rw [ia] at a1 b1 a2 b2
  exact ⟨⟨by omega,by omega⟩,by omega,by omega⟩
 constructor
 ·rintro ⟨h1, h2⟩
  have key:∀ k,k ≤ c.Gates.length → evalG (c.Gates.take k) (true :: (w.drop 1).take I) = w.take (I + 1 + k):=by
   intro k
   induction k with
   | zero=>
    intro _
    rw [List.take_zero,evalG,Zio]
    cases w with
    | nil=>simp at hL; omega
    | cons b u=>
     have:b = true:=h1
     rw [this]; simp
   | succ k ih=>
    intro hk
    have hkl:k < c.Gates.length:=by omega
    have e:=ih (by omega)
    obtain ⟨⟨a0,a1⟩,b0,b1⟩:=small k hkl
    rw [Zg5 hkl,Xe,e,← Zi1,Zg5 (by omega)]
    congr 2
    have hlt:(w.take (I + 1 + k)).length = I + 1 + k:=by rw [Zgq]; omega
    have t:∀ x:Int,x ≠ 0 → x.natAbs ≤ I + 1 + k → tr (vm (w.take (I + 1 + k))) x = tr (vm w) x:=fun x h0 hx=>by
     have:=Zcu (w:=w.take (I + 1 + k)) (u:=w.drop (I + 1 + k)) h0 (by omega)
     rw [Zhu] at this
     exact this.symm
    rw [t _ a0 a1,t _ b0 b1,← h2 k hkl hkl]
    unfold tr vm
    rw [Zgb (by omega),show (c.Inputs + 2 + (k:Int)).natAbs - 1 = I + 1 + k by omega,ZfW,ZfV (by omega)]; rfl
  have:=key c.Gates.length (Zgp _)
  have e2:w.take (I + 1 + c.Gates.length) = w:=ZgU (by omega)
  rw [Zh8,e2] at this
  exact this.symm
 ·intro h
  have pre:∀ k,k ≤ c.Gates.length → ∃ u,w = evalG (c.Gates.take k) (true :: (w.drop 1).take I) ++ u:=fun k hk=>by
   obtain ⟨u,e⟩:=YK (c.Gates.drop k) (evalG (c.Gates.take k) (true :: (w.drop 1).take I))
   refine ⟨u,?_⟩
   rw [← e]
   have app:∀ (g1 g2:List D.Gate) (z:List Bool),evalG (g1 ++ g2) z = evalG g2 (evalG g1 z):=fun g1=>by
    induction g1 with
    | nil=>intro _ _; rfl
    | cons x g1 ih=>intro g2 z; rw [ZhM,evalG,ih]; rfl
   rw [← app,Zhu]
   exact h
  refine ⟨?_,fun i hi _=>?_⟩
  ·rw [h]
   obtain ⟨u,e⟩:=YK c.Gates (true :: (w.drop 1).take I)
   rw [e]; rfl
  ·obtain ⟨⟨a0, a1⟩, b0, b1⟩ := small i hi
   obtain ⟨u,e⟩:=pre (i + 1) (by omega)
   obtain ⟨u',e'⟩:=pre i (by omega)
   have l1:=lenk i (by omega)
   rw [Zg5 hi,Xe] at e
   have tA:tr (vm w) c.Gates[i].A = tr (vm (evalG (c.Gates.take i) (true :: (w.drop 1).take I))) c.Gates[i].A:=by
    conv=>lhs; rw [e']
    exact Zcu a0 (by omega)
   have tB:tr (vm w) c.Gates[i].B = tr (vm (evalG (c.Gates.take i) (true :: (w.drop 1).take I))) c.Gates[i].B:=by
    conv=>lhs; rw [e']
    exact Zcu b0 (by omega)
   rw [tA,tB]
   conv=>lhs; rw [e]
   unfold tr vm
   rw [Zgb (by omega),show (c.Inputs + 2 + (i:Int)).natAbs - 1 = I + 1 + i by omega,ZfW,Zge (by rw [Zgh,l1]; simp),Zgc (by omega),l1,ZhA]; rfl
def allB:Nat → List (List Bool)
 | 0=>[[]]
 | n + 1=>(allB n).map (· ++ [false]) ++ (allB n).map (· ++ [true])
theorem YX:∀ (n:Nat),∀ w ∈ allB n,w.length = n
 | 0,w,h=>by rw [allB,Zgo] at h; rw [h]; rfl
 | n + 1,w,h=>by
  rw [allB,Zgu,ZgI,ZgI] at h
  rcases h with ⟨u,hu,rfl⟩ | ⟨u,hu,rfl⟩ <;> rw [Zgh,YX n u hu] <;> rfl
theorem ZbK:∀ (n:Nat) (w:List Bool),w.length = n → w ∈ allB n
 | 0,w,h=>by rw [allB,Zgo]; exact Zhq.1 h
 | n + 1,w,h=>by
  have hne:w ≠ []:=fun e=>by rw [e] at h; cases h
  have e:=ZhP hne
  have hl:w.dropLast.length = n:=by rw [List.length_dropLast]; omega
  have:=ZbK n _ hl
  rw [allB,Zgu,ZgI,ZgI]
  cases hb:w.getLast hne with
  | false=>rw [hb] at e; exact .inl ⟨_,this,e⟩
  | true=>rw [hb] at e; exact .inr ⟨_,this,e⟩
theorem ZaN (p:List Bool → Bool) (n:Nat):(allB (n + 1)).countP p = (allB n).countP (fun w=>p (w ++ [false])) + (allB n).countP (fun w=>p (w ++ [true])):=by
 rw [allB,Zic,Zit,Zit]; rfl
theorem Zbl (q v r:List Bool → Bool):∀ l:List (List Bool),l.countP (fun w=>q w && (!v w) && r (w ++ [false])) + l.countP (fun w=>q w && v w && r (w ++ [true])) = l.countP (fun w=>q w && r (w ++ [v w]))
 | []=>rfl
 | w :: l=>by
  have ih:=Zbl q v r l
  rw [Zhr,Zhr,Zhr]
  cases hq:q w <;> cases hv:v w <;> cases h1:r (w ++ [false]) <;> cases h2:r (w ++ [true]) <;> simp [hq,hv,h1,h2] <;> omega
theorem ZdH (n:Nat):∀ (k:Nat) (gs:List D.Gate),gs.length = k → ∀ R:List Bool → Bool,(allB (n + k)).countP (fun w=>decide (w = evalG gs (w.take n)) && R w) = (allB n).countP (fun u=>R (evalG gs u)):=by
 intro k
 induction k with
 | zero=>
  intro gs hk R
  rw [Zhq.1 hk,Zio]
  refine ZgX fun w hw=>?_
  have:=YX n w hw
  simp only [evalG]
  rw [ZgU (by omega)]; simp
 | succ k ih=>
  intro gs hk R
  have hne:gs ≠ []:=fun e=>by rw [e] at hk; cases hk
  obtain ⟨g0,g,rfl⟩ : ∃ g0 g,gs = g0 ++ [g]:=⟨_,_,(ZhP hne).symm⟩
  have hl:g0.length = k:=by rw [Zgh] at hk; simp at hk; omega
  let val:List Bool → Bool:=fun z=>tr (vm z) g.A && tr (vm z) g.B
  have hE:∀ z,evalG (g0 ++ [g]) z = evalG g0 z ++ [val (evalG g0 z)]:=fun z=>Xe g g0 z
  rw [← Zi1,ZaN]
  have key:∀ b w,w ∈ allB (n + k) → decide (w ++ [b] = evalG (g0 ++ [g]) ((w ++ [b]).take n)) = (decide (w = evalG g0 (w.take n)) && (b == val w)):=fun b w hw=>by
   have hlen:=YX _ w hw
   rw [Zhb (by omega),hE,Zhn]
   simp only [Zgk,ZfZ,Zhd]
   constructor
   ·intro h
    have h1:=List.append_inj_left h (by rw [Xa,Zgq]; omega)
    have h2:=List.append_inj_right h (by rw [Xa,Zgq]; omega)
    rw [← h1] at h2
    exact ⟨h1,by simpa using h2⟩
   ·rintro ⟨h1, h2⟩
    rw [← h1,h2]
  rw [ZgX (q:=fun w=>decide (w = evalG g0 (w.take n)) && (!val w) && R (w ++ [false])) fun w hw=>by rw [key false w hw]; cases val w <;> simp,
   ZgX (p:=fun w=>decide (w ++ [true] = evalG (g0 ++ [g]) ((w ++ [true]).take n)) && R (w ++ [true])) (q:=fun w=>decide (w = evalG g0 (w.take n)) && val w && R (w ++ [true])) fun w hw=>by rw [key true w hw]; cases val w <;> simp,
   Zbl (fun w=>decide (w = evalG g0 (w.take n))) val R,ih g0 hl (fun w=>R (w ++ [val w]))]
  refine ZgX fun u _=>by rw [hE]
theorem Ze2:∀ (n:Nat) (R:List Bool → Bool),(allB (n + 1)).countP (fun u=>u.headD false && R u) = (allB n).countP (fun v=>R (true :: v)):=by
 intro n
 induction n with
 | zero=>intro R; simp [allB]
 | succ n ih=>
  intro R
  have hh:∀ b,∀ w ∈ allB (n + 1),(w ++ [b]).headD false = w.headD false:=fun b w hw=>by
   have:=YX _ w hw
   cases w with
   | nil=>cases this
   | cons x w=>rfl
  rw [ZaN,ZaN (fun v=>R (true :: v))]
  have e1:(allB n).countP (fun w=>R (true :: (w ++ [false]))) = _:=(ih (fun w=>R (w ++ [false]))).symm
  have e2:(allB n).countP (fun w=>R (true :: (w ++ [true]))) = _:=(ih (fun w=>R (w ++ [true]))).symm
  rw [e1,e2]
  congr 1
  ·exact ZgX fun w hw=>by rw [hh false w hw]
  ·exact ZgX fun w hw=>by rw [hh true w hw]
section
variable {c:D.Circuit} {m:Nat} {limit:Int}
def uf (I:Nat) (a:List Int):Nat:=((a.take (I + 2)).drop 1).count 0
theorem Zem {cs:List (List Int)} {a:List Int} {x y l:Int} (hx:isL m x) (hy:isL m y) (hl:isL m l) (h1:[x,-l] ∈ cs) (h2:[y,-l] ∈ cs) (h3:[-x,-y,l] ∈ cs) (hg:∀ c ∈ cs,good a c) (vx:lv a x ≠ 0) (vy:lv a y ≠ 0):lv a l ≠ 0:=fun h0=>by
 have hn:lv a (-l) = 0:=by rw [Yq hl.1,h0]; rfl
 have ex:lv a x = 1:=by
  rcases hg _ h1 with ⟨z,hz,e⟩ | ⟨z,hz,u,hu,hne,e1,e2⟩
  ·simp only [Zgz, ZgE, or_false] at hz
   rcases hz with rfl | rfl
   ·exact e
   ·rw [hn] at e; cases e
  ·simp only [Zgz, ZgE, or_false] at hz hu
   rcases hz with rfl | rfl
   ·exact absurd e1 vx
   ·rcases hu with rfl | rfl
    ·exact absurd e2 vx
    ·exact absurd rfl hne
 have ey:lv a y = 1:=by
  rcases hg _ h2 with ⟨z,hz,e⟩ | ⟨z,hz,u,hu,hne,e1,e2⟩
  ·simp only [Zgz, ZgE, or_false] at hz
   rcases hz with rfl | rfl
   ·exact e
   ·rw [hn] at e; cases e
  ·simp only [Zgz, ZgE, or_false] at hz hu
   rcases hz with rfl | rfl
   ·exact absurd e1 vy
   ·rcases hu with rfl | rfl
    ·exact absurd e2 vy
    ·exact absurd rfl hne
 have nx:lv a (-x) = -1:=by rw [Yq hx.1,ex]
 have ny:lv a (-y) = -1:=by rw [Yq hy.1,ey]
 rcases hg _ h3 with ⟨z,hz,e⟩ | ⟨z,hz,u,hu,hne,e1,e2⟩
 ·simp only [Zgz, ZgE, or_false] at hz
  rcases hz with rfl | rfl | rfl <;> omega
 ·simp only [Zgz, ZgE, or_false] at hz hu
  rcases hz with rfl | rfl | rfl
  ·omega
  ·omega
  ·rcases hu with rfl | rfl | rfl
   ·omega
   ·omega
   ·exact hne rfl
end
theorem ZcT {c:D.Circuit}:∀ n k,k < n → ∀ x ∈ stepF c k (c.Gates.getD k ⟨0,0⟩),x ∈ accF c n
 | 0,k,h,_,_=>by omega
 | n + 1,k,h,x,hx=>by
  rw [accF,Zgu]
  by_cases e:k = n
  ·subst e; exact .inr hx
  ·exact .inl (ZcT n k (by omega) x hx)
def fmC (c:D.Circuit) (lit:Int):D.Formula:=⟨lines c,accF c c.Gates.length ++ [[lit]]⟩
section
variable {c:D.Circuit} {lit limit:Int} {m:Nat} (hc:CircP c) (hm:(m:Int) = lines c) (hf:FmP (fmC c lit) m)
include hc hm
theorem Zfd {a:List Int} (hA:Asg m a) (hg:∀ x ∈ (fmC c lit).Clauses,good a x) {w:Nat} (hw:LF a w) (h0:w ≠ 0):w ≤ c.Inputs.toNat + 1:=by
 have hi0:=hc.i0
 have hL:(m:Int) = c.Inputs + 1 + c.Gates.length:=hm
 have hl:=hA.len
 rcases hw with ⟨h,_⟩ | ⟨w1,w2,w3,w4⟩
 ·exact absurd h h0
 refine Classical.byContradiction fun hn=>?_
 obtain ⟨k,hk⟩ : ∃ k,w = c.Inputs.toNat + 2 + k:=⟨w - (c.Inputs.toNat + 2),by omega⟩
 have hkl:k < c.Gates.length:=by omega
 have o:=Cc.gate_ok hc (ZfV hkl)
 have a1:=(Cc.litN_iff.1 o.a).1
 have b1:=(Cc.litN_iff.1 o.b).1
 have a2:=o.al'
 have b2:=o.bl'
 rw [Cc.iab_neg] at a2 b2
 have e1:iab (c.Inputs + 2 + (k:Int)) = c.Inputs + 2 + (k:Int):=by unfold iab; rw [Zgb (by omega)]
 rw [e1] at a2 b2
 have ia:∀ x:Int,iab x = (x.natAbs:Int):=fun x=>by unfold iab; split <;> omega
 rw [ia] at a1 b1 a2 b2
 have eg:c.Gates.getD k ⟨0,0⟩ = c.Gates[k]:=by rw [ZfW,ZfV hkl]; rfl
 have mem:=ZcT (c:=c) c.Gates.length k hkl
 rw [eg] at mem
 have set:∀ x:Int,1 ≤ x.natAbs → x.natAbs < w → lv a x ≠ 0:=fun x h1 h2=>by
  have:=w4 _ h1 h2
  unfold lv
  split <;> omega
 have hcl:∀ x ∈ stepF c k c.Gates[k],x ∈ (fmC c lit).Clauses:=fun x hx=>Zhj _ (mem x hx)
 have:=Zem (l:=c.Inputs + 2 + (k:Int)) (cs:=(fmC c lit).Clauses) (a:=a) (m:=m) (x:=c.Gates[k].A) (y:=c.Gates[k].B) ⟨by omega,by omega⟩ ⟨by omega,by omega⟩ ⟨by omega,by omega⟩ (hcl _ (by simp [stepF])) (hcl _ (by simp [stepF])) (hcl _ (by simp [stepF])) hg (set _ (by omega) (by omega)) (set _ (by omega) (by omega))
 apply this
 unfold lv
 rw [Zgb (by omega),show (c.Inputs + 2 + (k:Int)).natAbs = w by omega,w3]
omit hc hm in
theorem Zf1 {cs:List (List Int)} {v b:List Int} (hv:Asg m v) (h:Okc m cs (Sv m v) b):∀ i:Nat,b[i]? = some (0:Int) → v[i]? = some (0:Int):=by
 intro i hi
 have hlt:i < b.length:=(ZfX.1 hi).1
 have hb0:b.getD i 0 = 0:=by
  have:=Yf hlt
  rw [hi] at this
  exact (Option.some.inj this).symm
 rw [Yf (by rw [hv.len,← h.asg.len]; exact hlt)]
 congr 1
 by_cases h0:i = 0
 ·subst h0; exact hv.nul
 have hlen:=h.asg.len
 have e:∀ c:List Int,lv c (i:Int) = c.getD i 0:=fun c=>by unfold lv; rw [Zgb (by omega)]; simp
 have en:∀ c:List Int,lv c (-(i:Int)) = -c.getD i 0:=fun c=>by rw [Yq (by omega),e]
 rcases hv.val i with h1 | h1 | h1
 ·have := h.ext (-(i : Int)) ⟨⟨by omega, by omega⟩, by rw [en, h1]; rfl⟩
  rw [en,hb0] at this; omega
 ·exact h1
 ·have := h.ext (i : Int) ⟨⟨by omega, by omega⟩, by rw [e, h1]⟩
  rw [e,hb0] at this; omega
omit hc hm in
theorem ZfJ {I:Nat} {cs:List (List Int)} {v b:List Int} (hv:Asg m v) (h:Okc m cs (Sv m v) b):uf I b ≤ uf I v:=by
 have hl1:=hv.len
 have hl2:=h.asg.len
 unfold uf
 refine XC _ _ (by rw [ZgP,ZgP,Zgq,Zgq,hl1,hl2]) fun i hi=>?_
 rw [Zhf,ZgG] at hi ⊢
 split at hi
 ·rename_i h1
  rw [Zga h1]
  exact Zf1 hv h _ hi
 ·cases hi
omit hc hm in
theorem Ze3 {I:Nat} {a:List Int} (hA:Asg m a) {l:Int} (hl:isL m l) (h0:lv a l = 0) (hI:l.natAbs ≤ I + 1):uf I (stA a l) + 1 = uf I a:=by
 obtain ⟨l0,l1⟩:=hl
 have hlen:=hA.len
 have hi:l.natAbs < a.length:=by omega
 have hz:a.getD l.natAbs 0 = 0:=by unfold lv at h0; split at h0 <;> omega
 have hk:l.natAbs - 1 < ((a.take (I + 2)).drop 1).length:=by rw [ZgP,Zgq]; omega
 have hg:((a.take (I + 2)).drop 1)[l.natAbs - 1] = 0:=by
  have h1:=Yf hi
  rw [hz,ZfV hi] at h1
  have h2:=Option.some.inj h1
  rw [List.getElem_drop,List.getElem_take]
  rw [← h2]; congr 1; omega
 have hpos:0 < ((a.take (I + 2)).drop 1).count 0:=Zhh.2 (hg ▸ Zg7 hk)
 unfold uf stA
 rw [List.take_set,List.drop_set,Zgb (by omega),List.count_set hk,hg]
 have hne:((if l < 0 then (-1:Int) else 1) == 0) = false:=by split <;> decide
 simp only [Zii,Zg6,hne,ZfY,Zgv]
 omega
include hf
theorem few:∀ (d:Nat) (a:List Int) (s:Int),Asg m a → (∀ x ∈ (fmC c lit).Clauses,good a x) → zer a ≤ d → s + ((2 ^ uf c.Inputs.toNat a:Nat):Int) ≤ limit + 1 →
  (srch m (fmC c lit).Clauses limit d a s).1 ≠ 3 ∧ (srch m (fmC c lit).Clauses limit d a s).2.2 + 1 ≤ s + ((2 ^ uf c.Inputs.toNat a:Nat):Int):=by
 intro d
 induction d with
 | zero=>
  intro a s hA hg hz
  have:0 < zer a:=Zhh.2 (by
   have h1:=hA.nul
   have h2:=Yf (a:=a) (i:=0) (by have:=hA.len; omega)
   rw [h1] at h2
   exact Zgt h2)
  omega
 | succ d ih=>
  intro a s hA hg hz hs
  obtain ⟨w,hw,-⟩:=Zb5 (a:=a) (q:=[]) (n:=2000) (by have:=hA.len; have:=hf.small; omega) (Zgp _)
  have hp:1 ≤ 2 ^ uf c.Inputs.toNat a:=Zif
  rw [Xy,Zcz hw]
  by_cases c1:w = 0
  ·rw [Zga c1]
   exact ⟨(by decide:(1:Int) ≠ 3),by show s + 1 ≤ _; omega⟩
  rw [Zgb c1]
  obtain ⟨k1,k2,k3,k4⟩:=ZaI hA hw c1
  have hwI:=Zfd hc hm hA hg hw c1
  have hwm:1 ≤ w:=by have:=k1.1; omega
  have one:∀ (l:Int) (s':Int),isL m l → lv a l = 0 → l.natAbs = w → s' + ((2 ^ (uf c.Inputs.toNat a - 1):Nat):Int) ≤ limit + 1 → (brn m (fmC c lit).Clauses limit d (stA a l) s').1 ≠ 3 ∧ (brn m (fmC c lit).Clauses limit d (stA a l) s').2.2 + 1 ≤ s' + ((2 ^ (uf c.Inputs.toNat a - 1):Nat):Int):=fun l s' hl h0 hlw hs'=>by
   have hA1:=Zaj hA hl
   have hz1:=X3 hA hl h0
   have hu:=Ze3 hA hl h0 (I:=c.Inputs.toNat) (by omega)
   have hp':1 ≤ 2 ^ (uf c.Inputs.toNat a - 1):=Zif
   unfold brn
   cases hcl:clo m (fmC c lit).Clauses (stA a l) with
   | none=>exact ⟨(by decide:(2:Int) ≠ 3),by show s' + 1 ≤ _; omega⟩
   | some b=>
    have hok:=YO hcl
    have hz2:=ZaQ hA1 hok
    have hu2:=ZfJ (I:=c.Inputs.toNat) hA1 hok
    have hpw:2 ^ uf c.Inputs.toNat b ≤ 2 ^ (uf c.Inputs.toNat a - 1):=Zhk (by decide) (by omega)
    have ih:=ih b s' hok.asg hok.cl (by omega)
    generalize 2 ^ uf c.Inputs.toNat b = pb at *
    generalize 2 ^ (uf c.Inputs.toNat a - 1) = pa at *
    obtain ⟨i1,i2⟩:=ih (by omega)
    exact ⟨i1,by show (srch m (fmC c lit).Clauses limit d b s').2.2 + 1 ≤ _; omega⟩
  have hu:=Ze3 hA k1 k3 (I:=c.Inputs.toNat) (by omega)
  have h2:2 ^ uf c.Inputs.toNat a = 2 * 2 ^ (uf c.Inputs.toNat a - 1):=by rw [← Nat.pow_succ']; congr 1; omega
  have hp1:1 ≤ 2 ^ (uf c.Inputs.toNat a - 1):=Zif
  rw [h2] at hs ⊢
  generalize 2 ^ (uf c.Inputs.toNat a - 1) = p at *
  rw [Zgb (by omega)]
  obtain ⟨p1,p2⟩:=one (-(w:Int)) (s + 1) k2 k4 (by omega) (by omega)
  by_cases c3:(brn m (fmC c lit).Clauses limit d (stA a (-(w:Int))) (s + 1)).1 = 2
  ·rw [Zga c3]
   obtain ⟨q1,q2⟩:=one (w:Int) (brn m (fmC c lit).Clauses limit d (stA a (-(w:Int))) (s + 1)).2.2 k1 k3 (by omega) (by omega)
   exact ⟨q1,by omega⟩
  ·rw [Zgb c3]
   exact ⟨p1,by omega⟩
end
end Go.Proofs.Ytfkjefbonbinnaa.Sv
end
section
namespace Go.Proofs.Ytfkjefbonbinnaa.Sv
open Go.GL
open Cc (CircP lines litN iab accF stepF litV evalB stepV outV' FU)
set_option linter.unusedSimpArgs false
set_option maxRecDepth 100000
variable {fuel:Nat} [FU fuel]
theorem Zc6 (w:List Bool) (x:Int):litV w x = tr (vm w) x:=by
 have ia:iab x = (x.natAbs:Int):=by unfold iab; split <;> omega
 unfold litV tr vm
 rw [ia,ZfW,show ((x.natAbs:Int) - 1).toNat = x.natAbs - 1 by omega]
theorem Zbn:∀ (gs:List D.Gate) (w:List Bool),gs.foldl stepV w = evalG gs w
 | [],_=>rfl
 | g :: gs,w=>by rw [Zin,evalG,Zbn gs]; unfold stepV; rw [Zc6,Zc6]
theorem Zfj {c:D.Circuit} (hc:CircP c) {v:List Bool} (hv:(v.length:Int) = c.Inputs):Z7 fuel c v = some (evalG c.Gates (true :: v)):=by
 have:=hc.len
 have:=hc.i1
 rw [Cc.spec_eval hc.fit (by omega) (by omega)]
 unfold evalB outV'
 rw [Cc.circP_iff.2 hc,Zc,hv,Zh8,Zbn]
 simp
def bitsL (n k:Nat):List Bool:=(List.range n).map fun i=>k.testBit i
theorem YZ (n k:Nat):(bitsL n k).length = n:=by simp [bitsL]
theorem Xd (n k:Nat):bitsL (n + 1) k = bitsL n k ++ [k.testBit n]:=by simp [bitsL,List.range_succ]
theorem Zcn:∀ n:Nat,(List.range (2 ^ n)).map (bitsL n) = allB n
 | 0=>rfl
 | n + 1=>by
  have ih:=Zcn n
  rw [Nat.pow_succ,Nat.mul_two,List.range_add,Zhw,allB,← ih,Zid,Zid,Zid]
  congr 1
  ·refine ZhY fun k hk => ?_
   rw [Zgj] at hk
   show bitsL (n + 1) k = bitsL n k ++ [false]
   rw [Xd,Nat.testBit_lt_two_pow hk]
  ·refine ZhY fun k hk => ?_
   rw [Zgj] at hk
   show bitsL (n + 1) (2 ^ n + k) = bitsL n k ++ [true]
   rw [Xd,Nat.testBit_two_pow_add_eq,Nat.testBit_lt_two_pow hk]
   congr 1
   unfold bitsL
   refine ZhY fun i hi=>?_
   rw [Zgj] at hi
   exact Nat.testBit_two_pow_add_gt hi k
theorem Zeo (x:Nat) (h:x < 2 ^ 40):band (x:Int) 1 = ((x % 2:Nat):Int):=by
 unfold band
 have e:(BitVec.ofInt 64 (x:Int) &&& BitVec.ofInt 64 1).toNat = x % 2:=by
  rw [BitVec.toNat_and,BitVec.toNat_ofInt,BitVec.toNat_ofInt]
  have e1:((x:Int) % ((2 ^ 64:Nat):Int)).toNat = x:=by omega
  have e2:((1:Int) % ((2 ^ 64:Nat):Int)).toNat = 1:=by decide
  rw [e1,e2,Nat.and_one_is_mod]
 rw [e,Zd (by omega) (by omega)]
theorem ZdZ {k:Nat} (hk:k < 2 ^ 40) {j:Nat} (hj:j ≤ 60):∃ x,shr? (k:Int) (j:Int) = some x ∧ (band x 1 == 1) = k.testBit j:=by
 refine ⟨(k:Int).fdiv (2 ^ min j 64),by unfold shr?; rw [Zgb (by omega)]; simp,?_⟩
 have e:(k:Int).fdiv (2 ^ min j 64) = ((k / 2 ^ j:Nat):Int):=by
  rw [Zhl (by omega),Int.fdiv_eq_ediv_of_nonneg _ (by exact Int.le_of_lt (Int.pow_pos (by decide)))]
  rw [Int.natCast_ediv,Int.natCast_pow]; rfl
 have hlt:k / 2 ^ j < 2 ^ 40:=Nat.lt_of_le_of_lt (Nat.div_le_self _ _) hk
 rw [e,Zeo _ hlt,Nat.testBit_eq_decide_div_mod_eq]
 rcases Nat.mod_two_eq_zero_or_one (k / 2 ^ j) with h | h <;> rw [h] <;> decide
theorem ZeJ {n:Int} {k:Nat} (h0:0 ≤ n) (h1:n ≤ 50) (hk:k < 2 ^ 40):Y4 fuel n (k:Int) = some (bitsL n.toNat k):=by
 unfold Y4
 rw [Yb (I:=fun j s=>s = ((j:Int),bitsL j k)) (m:=n.toNat) (r:=bitsL n.toNat k) (fun j s hj hs=>?_) (fun s hs=>?_) n.toNat 0 (0,[]) (by omega) rfl fuel (Cc.lt_fuel (by omega))]
 ·rfl
 all_goals subst hs
 ·refine ⟨_, ?_, rfl⟩
  obtain ⟨x,e1,e2⟩:=ZdZ hk (j:=j) (by omega)
  have hd:decide ((j:Int) < n) = true:=decide_eq_true (by omega)
  have hl:=YZ j k
  simp only [hd,Zg6,e1,ZfT,e2]
  rw [Zdd (by omega)]
  simp only [ZfT]
  rw [Zd (by omega) (by omega),Xd]; rfl
 ·have hd : decide (((n.toNat : Nat) : Int) < n) = false := decide_eq_false (by omega)
  simp only [hd,ZfY,Zgv]
def isM (cs:List (List Int)) (w:List Bool):Bool:=cs.all fun c=>c.any fun x=>tr (vm w) x
theorem Za4 {cs:List (List Int)} {w:List Bool}:isM cs w = true ↔ Sat (vm w) cs:=by
 unfold isM Sat
 simp only [Zgd,Zij]
section
variable {f:D.Formula} {m:Nat} (hf:FmP f m) {w:List Bool} (hw:w.length = m)
include hf hw
theorem ZeE {c:List Int} (hc:c ∈ f.Clauses):iterN (fun (s2:Bool × Int)=>
    if (decide (s2.2 < (len c))) then
     (get? c s2.2).bind fun x2=>
     (Zp x2).bind fun x3=>
     (get? w (w64 (x3 - 1))).bind fun x4=>
     if (x4 == (decide (x2 > 0))) then
      some (.inr (true))
     else
      some (.inl (s2.1,(w64 (s2.2 + 1))))
    else
     some (.inr (s2.1))) fuel (false,0) = some (c.any fun x=>tr (vm w) x):=by
  obtain ⟨hcl,hlen⟩:=hf.cl c hc
  have hm:=hf.small
  have key:∀ (rest pre:List Int) (n:Nat),pre ++ rest = c → rest.length < n → iterN (fun (s2:Bool × Int)=>
    if (decide (s2.2 < (len c))) then
     (get? c s2.2).bind fun x2=>
     (Zp x2).bind fun x3=>
     (get? w (w64 (x3 - 1))).bind fun x4=>
     if (x4 == (decide (x2 > 0))) then
      some (.inr (true))
     else
      some (.inl (s2.1,(w64 (s2.2 + 1))))
    else
     some (.inr (s2.1))) n (false,(pre.length:Int)) = some (rest.any fun x=>tr (vm w) x):=by
    intro rest
    induction rest with
    | nil =>
      intro pre n he hn
      have hd:decide ((pre.length:Int) < len c) = false:=by rw [Zc,← he,ZgD]; simp
      exact Zu (by simp only [hd,ZfY,Zgv,List.any_nil]) (by omega)
    | cons x rest ih =>
      intro pre n he hn
      simp only [Zg9] at hn
      obtain ⟨n,rfl⟩ : ∃ j,n = j + 1:=⟨n - 1,by omega⟩
      have hll:pre.length + (rest.length + 1) = c.length:=by rw [← he]; simp
      have hd:decide ((pre.length:Int) < len c) = true:=by rw [Zc]; exact decide_eq_true (by omega)
      have hx:c[pre.length]? = some x:=by rw [← he]; simp
      have hL:=hcl.lit x (by rw [← he]; simp)
      have hv:Zp x = some (x.natAbs:Int):=by
        have:=hL.2
        rw [Cc.impl_var (by unfold fitInt; omega) (by omega)]
        unfold iab; split <;> congr 1 <;> omega
      have hL1:=hL.1
      have hL2:=hL.2
      have hi:x.natAbs - 1 < w.length:=by omega
      have hg:get? w (w64 ((x.natAbs:Int) - 1)) = some (w.getD (x.natAbs - 1) false):=by
        rw [Zd (by omega) (by omega),show (x.natAbs:Int) - 1 = ((x.natAbs - 1:Nat):Int) by omega,get?_nat,ZfW,ZfV hi]; rfl
      have ht:(w.getD (x.natAbs - 1) false == decide (x > 0)) = tr (vm w) x:=by
        unfold tr vm
        by_cases h:x < 0
        · rw [Zga h,decide_eq_false (by omega)]; cases w.getD (x.natAbs - 1) false <;> rfl
        · rw [Zgb h,decide_eq_true (by omega)]; cases w.getD (x.natAbs - 1) false <;> rfl
      have e1:w64 ((pre.length:Int) + 1) = ((pre ++ [x]).length:Int):=by rw [Zd (by omega) (by omega)]; simp
      cases h:tr (vm w) x with
      | true =>
        refine Zu ?_ (by omega)
        simp only [hd,Zg6,get?_nat,hx,ZfT,hv,hg,ht,h,List.any_cons,Zie]
      | false =>
        rw [Xf (s':=(false,((pre ++ [x]).length:Int))) (by simp only [hd,Zg6,get?_nat,hx,ZfT,hv,hg,ht,h,ZfY,Zgv,e1]),ih (pre ++ [x]) n (by rw [Zg2]; exact he) (by omega),List.any_cons,h,Zgy]
  exact key c [] fuel rfl (Cc.lt_fuel (by omega))
theorem Zcc:ZP fuel f w = some (isM f.Clauses w):=by
  have hnum:=hf.num
  have key:∀ (rest pre:List (List Int)) (n:Nat),pre ++ rest = f.Clauses → rest.length < n → iterN (fun (s1:Int)=>
  if (decide (s1 < (len f.Clauses))) then
   (get? f.Clauses s1).bind fun x1 =>
   (iterN (fun (s2 : Bool × Int) =>
    if (decide (s2.2 < (len x1))) then
     (get? x1 s2.2).bind fun x2=>
     (Zp x2).bind fun x3=>
     (get? w (w64 (x3 - 1))).bind fun x4=>
     if (x4 == (decide (x2 > 0))) then
      some (.inr (true))
     else
      some (.inl (s2.1,(w64 (s2.2 + 1))))
    else
     some (.inr (s2.1))
   ) fuel (false,0)).bind fun (rl2:Bool)=>
   if (!rl2) then
    some (.inr (.inr false))
   else
    some (.inl ((w64 (s1 + 1))))
  else
   some (.inr (.inl ()))) n (pre.length:Int) = some (if isM rest w = true then (.inl ():Unit ⊕ Bool) else .inr false):=by
    intro rest
    induction rest with
    | nil =>
      intro pre n he hn
      have hd:decide ((pre.length:Int) < len f.Clauses) = false:=by rw [Zc,← he,ZgD]; simp
      exact Zu (by simp only [hd,ZfY,Zgv,isM,List.all_nil,Zg6]) (by omega)
    | cons c rest ih =>
      intro pre n he hn
      simp only [Zg9] at hn
      obtain ⟨n,rfl⟩ : ∃ j,n = j + 1:=⟨n - 1,by omega⟩
      have hll:pre.length + (rest.length + 1) = f.Clauses.length:=by rw [← he]; simp
      have hd:decide ((pre.length:Int) < len f.Clauses) = true:=by rw [Zc]; exact decide_eq_true (by omega)
      have hx:f.Clauses[pre.length]? = some c:=by rw [← he]; simp
      have hin:=ZeE (fuel:=fuel) hf hw (c:=c) (by rw [← he]; simp)
      have e1:w64 ((pre.length:Int) + 1) = ((pre ++ [c]).length:Int):=by rw [Zd (by omega) (by omega)]; simp
      have hcons:isM (c :: rest) w = ((c.any fun x=>tr (vm w) x) && isM rest w):=rfl
      cases h:c.any fun x=>tr (vm w) x with
      | true =>
        rw [Xf (s':=((pre ++ [c]).length:Int)) (by
          simp only [hd,Zg6,get?_nat,hx,ZfT]
          rw [hin,h]
          simp only [ZfT,Zgr,ZfY,Zgv,e1]),ih (pre ++ [c]) n (by rw [Zg2]; exact he) (by omega),hcons,h,ZhF]
      | false =>
        refine Zu ?_ (by omega)
        simp only [hd,Zg6,get?_nat,hx,ZfT]
        rw [hin,h,hcons,h]; rfl
  have:=key f.Clauses [] fuel rfl (Cc.lt_fuel (by omega))
  unfold ZP
  refine (congrArg (fun o=>Option.bind o (fun (rl1:(Unit) ⊕ Bool)=>match rl1 with | .inl s1r=>some true | .inr v=>some v)) this).trans ?_
  cases isM f.Clauses w <;> rfl
end
end Go.Proofs.Ytfkjefbonbinnaa.Sv
end
section
namespace Go.Proofs.Ytfkjefbonbinnaa.Sv
open Go.GL
open Cc (CircP lines litN iab accF stepF FU)
set_option linter.unusedSimpArgs false
set_option maxRecDepth 100000
variable {fuel:Nat} [FU fuel]
theorem u64w {j:Nat} (h:j ≤ 1000):IntKind.u64.wrap (j:Int) = (j:Int):=by
 show ((BitVec.ofInt 64 (j:Int)).toNat:Int) = j
 rw [BitVec.toNat_ofInt]; omega
theorem Za0 {k:Nat} (h:k ≤ 20):shl? 1 (k:Int) = some ((2 ^ k:Nat):Int):=by
 have h2:2 ^ k ≤ 2 ^ 20:=Zhk (by decide) h
 unfold shl?
 have e:((2:Int) ^ k) = ((2 ^ k:Nat):Int):=by rw [Int.natCast_pow]; rfl
 rw [Zgb (by omega),Zho,Zhl (by omega),Int.one_mul,e]
 generalize 2 ^ k = z at *
 rw [Zd (by omega) (by omega)]
theorem Zbd (p:Nat → Bool) (k:Nat):(((List.range (k + 1)).countP p:Nat):Int) = ((List.range k).countP p:Nat) + (if p k = true then 1 else 0):=by
 rw [List.range_succ,Zic,Zhr,List.countP_nil]
 split <;> omega
theorem Zep (p:Nat → Bool) (k:Nat):(List.range k).countP p ≤ k:=by
 have:=ZhK (p:=p) (l:=List.range k)
 rw [List.length_range] at this; exact this
theorem ZeW {m K:Nat} (hK:K < 2 ^ 40) {ms:List Bool} (hl:ms.length = m) (hm:m ≤ 50):iterN (fun (s2:Int × (List Bool))=>
     if (decide (s2.1 < (len ms))) then
      (shr? (K:Int) (IntKind.u64.wrap s2.1)).bind fun x4=>
      (set? s2.2 s2.1 ((band x4 1) == 1)).bind fun x5=>
      some (.inl ((w64 (s2.1 + 1)),x5))
     else
      some (.inr (s2.2))) fuel (0,ms) = some (bitsL m K):=by
  rw [Yb (I:=fun j s=>s = ((j:Int),bitsL j K ++ ms.drop j)) (m:=m) (r:=bitsL m K) (fun j s hj hs=>?_) (fun s hs=>?_) m 0 (0,ms) (by omega) rfl fuel (Cc.lt_fuel (by omega))]
  all_goals subst hs
  · refine ⟨_, ?_, rfl⟩
    obtain ⟨x,e1,e2⟩:=ZdZ hK (j:=j) (by omega)
    have hd:decide ((j:Int) < len ms) = true:=by rw [Zc]; exact decide_eq_true (by omega)
    have hbl:=YZ j K
    simp only [hd,Zg6,u64w (show j ≤ 1000 by omega),e1,ZfT,e2]
    rw [set?_nat (by rw [Zgh,hbl,ZgP]; omega)]
    simp only [ZfT]
    rw [Zd (by omega) (by omega),ZhL _ _ (by omega),hbl,ZhA,Zg4 (by omega),ZhZ,Xd,Zg2]; rfl
  · have hd : decide ((m : Int) < len ms) = false := by rw [Zc]; exact decide_eq_false (by omega)
    simp only [hd,ZfY,Zgv]
    rw [Zhs (by omega),ZgD]
theorem ZbN (p:List Bool → Bool) (n:Nat):(List.range (2 ^ n)).countP (fun k=>p (bitsL n k)) = (allB n).countP p:=by
 rw [← Zcn,Zit]; rfl
section
variable {f:D.Formula} {m:Nat} (hf:FmP f m)
include hf
theorem Zet (hk:Zv fuel f = some true) (hm:m ≤ 12):Zy fuel f = some ((((allB m).countP (isM f.Clauses):Nat)):Int):=by
  unfold Zy
  rw [hk,hf.vars]
  simp only [ZfT,Zgr,Zgy]
  rw [Zgb (by simp; omega),Zb6 (by omega)]
  simp only [ZfT]
  have h2:2 ^ m ≤ 2 ^ 12:=Zhk (by decide) hm
  obtain ⟨r,g1,g2⟩:=Cc.iterN_upE0 (B:=fun (s1:Int × Int × (List Bool))=>
   (shl? 1 (IntKind.u64.wrap (m:Int))).bind fun x3=>
   if (decide (s1.2.1 < x3)) then
    (iterN (fun (s2 : Int × (List Bool)) =>
     if (decide (s2.1 < (len s1.2.2))) then
      (shr? s1.2.1 (IntKind.u64.wrap s2.1)).bind fun x4=>
      (set? s2.2 s2.1 ((band x4 1) == 1)).bind fun x5=>
      some (.inl ((w64 (s2.1 + 1)),x5))
     else
      some (.inr (s2.2))
    ) fuel (0,s1.2.2)).bind fun (rl2:(List Bool))=>
    (ZP fuel f rl2).bind fun x6=>
    some (.inl ((cond x6 (w64 (s1.1 + 1)) s1.1),(w64 (s1.2.1 + 1)),rl2))
   else
    some (.inr (s1.1,s1.2.2))) (I:=fun K s=>∃ ms:List Bool,s = ((((List.range K).countP (fun k=>isM f.Clauses (bitsL m k)):Nat):Int),(K:Int),ms) ∧ ms.length = m) (m:=2 ^ m) (R:=fun r=>r.1 = (((List.range (2 ^ m)).countP (fun k=>isM f.Clauses (bitsL m k)):Nat):Int))
    (fun K s hK hs=>by
      obtain ⟨ms,rfl,hl⟩:=hs
      have hd:decide ((K:Int) < ((2 ^ m:Nat):Int)) = true:=decide_eq_true (by omega)
      have hfil:=ZeW (fuel:=fuel) (m:=m) (K:=K) (by omega) hl (by omega)
      have hmod:=Zcc (fuel:=fuel) hf (w:=bitsL m K) (YZ m K)
      have hle:=Zep (fun k=>isM f.Clauses (bitsL m k)) K
      refine ⟨((((List.range (K + 1)).countP (fun k=>isM f.Clauses (bitsL m k)):Nat):Int),((K + 1:Nat):Int),bitsL m K),?_,_,rfl,YZ m K⟩
      rw [u64w (by omega),Za0 (by omega)]
      simp only [ZfT,hd,Zg6]
      rw [hfil]
      simp only [ZfT]
      rw [hmod,Zbd]
      simp only [ZfT]
      rw [Zd (x:=(K:Int) + 1) (by omega) (by omega)]
      cases isM f.Clauses (bitsL m K)
      · simp
      · simp; rw [Zd (by omega) (by omega)])
    (fun s hs=>by
      obtain ⟨ms,rfl,hl⟩:=hs
      have hd:decide (((2 ^ m:Nat):Int) < ((2 ^ m:Nat):Int)) = false:=decide_eq_false (by omega)
      rw [u64w (by omega),Za0 (by omega)]
      simp only [ZfT,hd,ZfY,Zgv]
      exact ⟨_,rfl,rfl⟩) (2 ^ m) 0 (0,0,List.replicate m false) (by omega) ⟨_,rfl,by simp⟩ fuel (Cc.lt_fuel (by omega))
  rw [show iterN _ fuel _ = _ from g1]
  simp only [ZfT]
  rw [g2,ZbN]
end
theorem Zcw {c:D.Circuit} (hc:CircP c) {lit:Int}:(allB (lines c).toNat).countP (isM (fmC c lit).Clauses) = (allB c.Inputs.toNat).countP fun v=>tr (vm (evalG c.Gates (true :: v))) lit:=by
 have hi0:=hc.i0
 have hL:lines c = c.Inputs + 1 + c.Gates.length:=rfl
 have hV:(lines c).toNat = (c.Inputs.toNat + 1) + c.Gates.length:=by omega
 rw [← Ze2 c.Inputs.toNat (fun u=>tr (vm (evalG c.Gates u)) lit),hV]
 have key:=ZdH (c.Inputs.toNat + 1) c.Gates.length c.Gates rfl (fun w=>w.headD false && tr (vm w) lit)
 have e1:(allB (c.Inputs.toNat + 1)).countP (fun u=>u.headD false && tr (vm (evalG c.Gates u)) lit) = (allB (c.Inputs.toNat + 1)).countP (fun u=>(evalG c.Gates u).headD false && tr (vm (evalG c.Gates u)) lit):=by
  refine ZgX fun u hu=>?_
  have hlen:=YX _ u hu
  obtain ⟨z,ez⟩:=YK c.Gates u
  have:(evalG c.Gates u).headD false = u.headD false:=by
   rw [ez]
   cases u with
   | nil=>simp at hlen
   | cons b u=>rfl
  rw [this]
 rw [e1,← key]
 refine ZgX fun w hw=>?_
 have hwl:=YX _ w hw
 have hS:isM (fmC c lit).Clauses w = true ↔ Sat (vm w) (accF c c.Gates.length) ∧ tr (vm w) lit = true:=by
  rw [Za4]
  unfold fmC Sat
  simp only [Zgu,Zgo]
  constructor
  ·intro h
   refine ⟨fun x hx=>h x (.inl hx),?_⟩
   obtain ⟨y,hy,h1⟩:=h _ (.inr rfl)
   rw [Zgo.1 hy] at h1; exact h1
  ·rintro ⟨h1, h2⟩ x (hx | rfl)
   ·exact h1 x hx
   ·exact ⟨lit,Zgo.2 rfl,h2⟩
 rw [hS,Za9 hc (by omega)]
 simp only [ZfZ,Zgk]
 have ht:w.headD false = true → w.take (c.Inputs.toNat + 1) = true :: (w.drop 1).take c.Inputs.toNat:=fun h=>by
  cases w with
  | nil=>cases h
  | cons b u=>rw [show b = true from h]; rfl
 constructor
 ·rintro ⟨h1, h2⟩
  have hh:w.headD false = true:=by
   obtain ⟨z,ez⟩:=YK c.Gates (true :: (w.drop 1).take c.Inputs.toNat)
   rw [h1,ez]; rfl
  exact ⟨by rw [ht hh]; exact h1,hh,h2⟩
 ·rintro ⟨h1, h2, h3⟩
  rw [ht h2] at h1
  exact ⟨h1,h3⟩
end Go.Proofs.Ytfkjefbonbinnaa.Sv
end
