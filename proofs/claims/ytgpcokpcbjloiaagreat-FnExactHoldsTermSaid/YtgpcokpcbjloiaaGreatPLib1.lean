/- Texts of this claim put into one: library or plain laws, without the program under test. -/
import Derived.Test.YtgpcokpcbjloiaaGreatLib3
import Derived.Test.YtgpcokpcbjloiaaGreatDefs
import Derived.Lib.Strings
set_option linter.unusedSimpArgs false
set_option linter.unusedVariables false
section
namespace Go.Proofs.YtgpcokpcbjloiaaGreat.Cc
open Go.GL
class FU (n:Nat):Prop where
 le:1048577 ≤ n
theorem lt_fuel {n fuel:Nat} [q:FU fuel] (h:n ≤ 1048576):n < fuel:=by have:=q.le; omega
variable {fuel:Nat} [FU fuel]
def iab (x:Int):Int:=if x < 0 then -x else x
def gateB (n:Int) (seen:List D.Gate) (g:D.Gate):Bool:=
 decide (-(n + 1 + (seen.length:Int)) ≤ g.A ∧ g.A ≤ n + 1 + seen.length) && decide (-(n + 1 + (seen.length:Int)) ≤ g.B ∧ g.B ≤ n + 1 + seen.length) && decide (2 ≤ iab g.A) && decide (iab g.A < iab g.B) && !(seen.contains g)
theorem YX {a:Int} (h:fitInt a) (h' : -1000 ≤ a):Zo a = some (iab a):=by
 unfold Zo iab
 unfold fitInt at h
 by_cases c:a < 0
 ·rw [ZmJ (by simpa using c),ZmJ c,Zb (by omega) (by omega)]; simp
 ·rw [ZmI (by simpa using c),ZmI c]
theorem Yk {a:Int} (h:fitInt a) (h' : -1000 ≤ a):Yi a = some (iab a):=by
 unfold Yi iab
 unfold fitInt at h
 by_cases c:a < 0
 ·rw [ZmJ (by simpa using c),ZmJ c,Zb (by omega) (by omega)]; simp
 ·rw [ZmI (by simpa using c),ZmI c]
theorem Zf1 {l:List D.Gate} {g:D.Gate} (hb:l.length ≤ 1048576) :
  iterN (fun (s2:Int)=>
      if (decide (s2 < (len l))) then
       (get? l s2).bind fun x9=>
       if (decide (g = x9)) then
        some (.inr (.inr false))
       else
        some (.inl ((w64 (s2 + 1))))
      else
       some (.inr (.inl ()))) fuel 0 = some (if l.contains g then .inr false else (.inl ():Unit ⊕ Bool)):=by
 rw [Zai (I:=fun k s=>s = (k:Int)) (m:=l.length) (ok:=fun k=>decide (l[k]? ≠ some g)) (r:=.inl ()) (r':=.inr false) (fun k s hk hs hok=>?_) (fun k s hk hs hok=>?_) (fun s hs=>?_) l.length 0 _ (by omega) (by simp) fuel (lt_fuel hb)]
 ·congr 1
  have:((List.range' 0 l.length).all fun k=>decide (l[k]? ≠ some g)) = !(l.contains g):=by
   cases hc:l.contains g with
   | true=>
    rw [ZoA,ZmN] at hc
    obtain ⟨i,hi⟩:=ZnJ.1 hc
    have hlt:=(ZmG.1 hi).1
    rw [ZmT,List.all_eq_false]
    exact ⟨i,by simp [Zom]; omega,by simp [hi]⟩
   | false=>
    rw [ZoA,decide_eq_false_iff_not] at hc
    rw [ZnX,ZmR]
    intro i _
    simp only [ne_eq,ZmN]
    exact fun hi=>hc (ZmM hi)
  rw [this]
  cases l.contains g <;> simp
 ·subst hs
  refine ⟨_,?_,rfl⟩
  rw [ZmJ (by rw [Za]; simp; omega),get?_nat,ZmE hk]
  rw [ZmE hk] at hok
  simp only [ZmD]
  rw [ZmI (by intro h; simp at h hok; exact hok h.symm),Zb (by omega) (by omega)]
  rfl
 ·subst hs
  rw [ZmJ (by rw [Za]; simp; omega),get?_nat,ZmE hk]
  rw [ZmE hk] at hok
  simp only [ZmD]
  rw [ZmJ (by simp at hok ⊢; exact hok.symm)]
 ·subst hs
  rw [ZmI (by rw [Za]; simp)]
def gateAt (x:D.Circuit) (k:Nat):Bool:=match x.Gates[k]? with | some g=>gateB x.Inputs (x.Gates.take k) g | none=>false
def circB2 (x:D.Circuit):Bool:=decide (0 ≤ x.Inputs ∧ x.Inputs ≤ 30) && decide ((x.Gates.length:Int) ≤ 360) && (List.range' 0 x.Gates.length).all (gateAt x)
theorem fitK {g:D.Gate} (h:ZaJ g):ZB g = true:=by
 obtain ⟨h1,h2⟩:=h
 unfold fitInt at h1 h2
 simp only [ZB,fitZ,Lit.wf,IntKind.min,IntKind.max,ZmK]
 simp [IntKind.bits,IntKind.signed] at *
 omega
theorem Zj9 {x:D.Circuit} (hx:ZaM x) (hl:x.Gates.length ≤ 1048576):XC fuel x = some (circB2 x):=by
 unfold XC circB2
 simp only [Zg,ZmD]
 by_cases c:(0 ≤ x.Inputs ∧ x.Inputs ≤ 30) ∧ (x.Gates.length:Int) ≤ 360
 ·obtain ⟨⟨h0, h1⟩, hl3⟩ := c
  rw [ZmI (by rw [Za]; simp; omega)]
  rw [Zai (I:=fun k s=>s = (k:Int)) (m:=x.Gates.length) (ok:=gateAt x) (r:=.inl ()) (r':=.inr false) (fun k s hk hs hok=>?_) (fun k s hk hs hok=>?_) (fun s hs=>?_) x.Gates.length 0 _ (by omega) (by simp) fuel (lt_fuel hl)]
  ·simp only [h0, h1, and_self, decide_true, hl3, Zn1]
   cases (List.range' 0 x.Gates.length).all (gateAt x) <;> simp
  all_goals subst hs
  ·refine ⟨((k + 1 : Nat) : Int), ?_, rfl⟩
   have hfit:ZaJ x.Gates[k]:=hx.2.2 _ (Zns hk)
   have hlt:(x.Gates.take k).length = k:=by simp; omega
   rw [ZmJ (by rw [Za]; simp; omega),get?_nat,ZmE hk]
   simp only [ZmD]
   unfold gateAt at hok
   rw [ZmE hk] at hok
   simp only at hok
   unfold gateB at hok
   rw [hlt] at hok
   generalize x.Gates[k] = g at hfit hok ⊢
   simp only [ZmK,ZmN,Zn9] at hok
   obtain ⟨⟨⟨⟨cA,cB⟩,c2⟩,c3⟩,c4⟩:=hok
   rw [Zb (x:=x.Inputs + 1) (by omega) (by omega),Zb (x:=x.Inputs + 1 + (k:Int)) (by omega) (by omega),Zb (x:=0 - (x.Inputs + 1 + (k:Int))) (by omega) (by omega)]
   have e1:(decide (g.A ≥ 0 - (x.Inputs + 1 + (k:Int))) && decide (g.A ≤ x.Inputs + 1 + (k:Int))) = true:=by simp; omega
   have e2:(decide (g.B ≥ 0 - (x.Inputs + 1 + (k:Int))) && decide (g.B ≤ x.Inputs + 1 + (k:Int))) = true:=by simp; omega
   have e3:decide (iab g.A < 2) = false:=by simp; omega
   have e4:decide (iab g.A ≥ iab g.B) = false:=by simp; omega
   have hcut:cut? x.Gates 0 (k:Int) = some (x.Gates.take k):=by
    unfold cut?
    rw [ZmJ ⟨by omega,by omega,by omega⟩]; simp
   simp only [e1,e2,ZmT,Zol,ZmF,ZmQ,ZmD,YX hfit.1 (by omega),YX hfit.2 (by omega),Znt,e3,e4,hcut]
   rw [Zf1 (by omega),c4]
   simp only [ZmF,ZmQ,ZmD]
   rw [Zb (by omega) (by omega)]
   rfl
  ·have hfit : ZaJ x.Gates[k] := hx.2.2 _ (Zns hk)
   have hlt:(x.Gates.take k).length = k:=by simp; omega
   rw [ZmJ (by rw [Za]; simp; omega),get?_nat,ZmE hk]
   simp only [ZmD]
   unfold gateAt at hok
   rw [ZmE hk] at hok
   simp only at hok
   unfold gateB at hok
   rw [hlt] at hok
   generalize x.Gates[k] = g at hfit hok ⊢
   rw [Zb (x:=x.Inputs + 1) (by omega) (by omega),Zb (x:=x.Inputs + 1 + (k:Int)) (by omega) (by omega),Zb (x:=0 - (x.Inputs + 1 + (k:Int))) (by omega) (by omega)]
   by_cases cA : -(x.Inputs + 1 + (k:Int)) ≤ g.A ∧ g.A ≤ x.Inputs + 1 + k
   ·have e1 : (decide (g.A ≥ 0 - (x.Inputs + 1 + (k : Int))) && decide (g.A ≤ x.Inputs + 1 + (k : Int))) = true := by simp; omega
    by_cases cB : -(x.Inputs + 1 + (k:Int)) ≤ g.B ∧ g.B ≤ x.Inputs + 1 + k
    ·have e2 : (decide (g.B ≥ 0 - (x.Inputs + 1 + (k : Int))) && decide (g.B ≤ x.Inputs + 1 + (k : Int))) = true := by simp; omega
     simp only [e1,e2,ZmT,Zol,ZmF,ZmQ,ZmD,YX hfit.1 (by omega),YX hfit.2 (by omega),Znt]
     by_cases c2:2 ≤ iab g.A
     ·have e3 : decide (iab g.A < 2) = false := by simp; omega
      simp only [e3,ZmF,ZmQ,ZmD,Znt]
      by_cases c3:iab g.A < iab g.B
      ·have e4 : decide (iab g.A ≥ iab g.B) = false := by simp; omega
       simp only [cA,cB,c2,c3,and_self,decide_true,Zn1,Bool.not_eq_false'] at hok
       have hcut:cut? x.Gates 0 (k:Int) = some (x.Gates.take k):=by
        unfold cut?
        rw [ZmJ ⟨by omega,by omega,by omega⟩]; simp
       simp only [e4,ZmF,ZmQ,hcut,ZmD]
       rw [Zf1 (by omega),hok]
       simp
      ·have e4 : decide (iab g.A ≥ iab g.B) = true := by simp; omega
       simp only [e4,ZmT,ZnX,Zoq,ZoI,Znt,ZoR,Zol,ZmF,Znl,ZmQ,ZmD]
     ·have e3 : decide (iab g.A < 2) = true := by simp; omega
      simp only [e3,ZmT,ZnX,Zoq,ZoI,Znt,ZoR,Zol,ZmF,Znl,ZmQ,ZmD]
    ·have e2:(decide (g.B ≥ 0 - (x.Inputs + 1 + (k:Int))) && decide (g.B ≤ x.Inputs + 1 + (k:Int))) = false:=by
      simp only [Zo7,decide_eq_false_iff_not]; omega
     simp only [e1,e2,ZmT,ZnX,Zoq,ZoI,Znt,ZoR,Zol,ZmF,Znl,ZmQ,ZmD]
   ·have e1:(decide (g.A ≥ 0 - (x.Inputs + 1 + (k:Int))) && decide (g.A ≤ x.Inputs + 1 + (k:Int))) = false:=by
     simp only [Zo7,decide_eq_false_iff_not]; omega
    simp only [e1,ZmT,ZnX,Zoq,ZoI,Znt,ZoR,Zol,ZmF,Znl,ZmQ,ZmD]
  ·rw [ZmI (by rw [Za]; simp)]
 ·rw [ZmJ (by rw [Za]; simp; omega)]
  have:(decide (0 ≤ x.Inputs ∧ x.Inputs ≤ 30) && decide ((x.Gates.length:Int) ≤ 360)) = false:=by
   simp only [Zo7,decide_eq_false_iff_not]; omega
  rw [this]; rfl
theorem ZfM {l:List D.Gate} {g:D.Gate}:((l.reverse.map fun q=>(q,true)).lookup g).getD false = l.contains g:=by
 have key:∀ m:List D.Gate,((m.map fun q=>(q,true)).lookup g).getD false = m.contains g:=by
  intro m
  induction m with
  | nil=>rfl
  | cons q m ih=>
   rw [ZmX,Znk,ZoP]
   by_cases h:g = q
   ·subst h; simp
   ·have : (g == q) = false := by simpa using h
    rw [this]; simpa using ih
 rw [key,ZnP]
 simp
theorem Zjy {x:D.Circuit} (hx:ZaM x) (hl:x.Gates.length ≤ 1048576):XB fuel x = some (circB2 x):=by
 unfold XB circB2
 by_cases c:(0 ≤ x.Inputs ∧ x.Inputs ≤ 30) ∧ (x.Gates.length:Int) ≤ 360
 ·obtain ⟨⟨h0, h1⟩, hl3⟩ := c
  rw [ZmI (by rw [Za]; simp; omega)]
  rw [Zai (I:=fun k s=>s = ((k:Int),(x.Gates.take k).reverse.map fun q=>(q,true))) (m:=x.Gates.length) (ok:=gateAt x) (r:=.inl (x.Gates.reverse.map fun q=>(q,true))) (r':=.inr false) (fun k s hk hs hok=>?_) (fun k s hk hs hok=>?_) (fun s hs=>?_) x.Gates.length 0 _ (by omega) (by simp) fuel (lt_fuel hl)]
  ·simp only [h0, h1, and_self, decide_true, hl3, Zn1]
   cases (List.range' 0 x.Gates.length).all (gateAt x) <;> simp
  all_goals subst hs
  ·refine ⟨(((k + 1 : Nat) : Int), (x.Gates.take (k + 1)).reverse.map fun q => (q, true)), ?_, rfl⟩
   have hfit:ZaJ x.Gates[k]:=hx.2.2 _ (Zns hk)
   have hlt:(x.Gates.take k).length = k:=by simp; omega
   rw [ZmJ (by rw [Za]; simp; omega),get?_nat,ZmE hk]
   simp only [ZmD]
   unfold gateAt at hok
   rw [ZmE hk] at hok
   simp only at hok
   unfold gateB at hok
   rw [hlt] at hok
   rw [Zni hk]
   generalize x.Gates[k] = g at hfit hok ⊢
   simp only [ZmK,ZmN,Zn9] at hok
   obtain ⟨⟨⟨⟨cA,cB⟩,c2⟩,c3⟩,c4⟩:=hok
   have nA:g.A ≠ 0:=by unfold iab at c2; split at c2 <;> omega
   have nB:g.B ≠ 0:=by unfold iab at c2 c3; split at c2 <;> split at c3 <;> omega
   rw [Zb (x:=1 + x.Inputs) (by omega) (by omega),Zb (x:=1 + x.Inputs + (k:Int)) (by omega) (by omega)]
   have e1:ZJ g.A (1 + x.Inputs + (k:Int)) = some true:=by
    unfold ZJ
    rw [Zb (by omega) (by omega)]; simp; omega
   have e2:ZJ g.B (1 + x.Inputs + (k:Int)) = some true:=by
    unfold ZJ
    rw [Zb (by omega) (by omega)]; simp; omega
   have e3:decide (iab g.A < 2) = false:=by simp; omega
   have e4:decide (iab g.A ≥ iab g.B) = false:=by simp; omega
   have hg:mget? ZB false ((x.Gates.take k).reverse.map fun q=>(q,true)) g = some false:=by
    unfold mget?
    rw [ZmJ (fitK hfit),ZfM,c4]
   have hp:mput? ZB ((x.Gates.take k).reverse.map fun q=>(q,true)) g true = some ((g,true) :: ((x.Gates.take k).reverse.map fun q=>(q,true))):=by
    unfold mput?
    rw [ZmJ ⟨fitK hfit,by simp; unfold room; omega⟩]
   simp only [e1,e2,ZmT,Zol,ZmF,ZmQ,ZmD,Yk hfit.1 (by omega),Yk hfit.2 (by omega),Znt,e3,e4,hg,hp]
   rw [Zb (by omega) (by omega)]
   simp
  ·have hfit : ZaJ x.Gates[k] := hx.2.2 _ (Zns hk)
   have hlt:(x.Gates.take k).length = k:=by simp; omega
   rw [ZmJ (by rw [Za]; simp; omega),get?_nat,ZmE hk]
   simp only [ZmD]
   unfold gateAt at hok
   rw [ZmE hk] at hok
   simp only at hok
   unfold gateB at hok
   rw [hlt] at hok
   generalize x.Gates[k] = g at hfit hok ⊢
   rw [Zb (x:=1 + x.Inputs) (by omega) (by omega),Zb (x:=1 + x.Inputs + (k:Int)) (by omega) (by omega)]
   have lit:∀ a:Int,ZJ a (1 + x.Inputs + (k:Int)) = some (decide (a ≠ 0 ∧ -(1 + x.Inputs + (k:Int)) ≤ a ∧ a ≤ 1 + x.Inputs + (k:Int))):=by
    intro a
    unfold ZJ
    rw [Zb (by omega) (by omega)]
    congr 1
    rw [ZnP]
    simp
    omega
   have hg:mget? ZB false ((x.Gates.take k).reverse.map fun q=>(q,true)) g = some ((x.Gates.take k).contains g):=by
    unfold mget?
    rw [ZmJ (fitK hfit),ZfM]
   simp only [lit,ZmD]
   by_cases cA:g.A ≠ 0 ∧ -(1 + x.Inputs + (k:Int)) ≤ g.A ∧ g.A ≤ 1 + x.Inputs + (k:Int)
   ·by_cases cB : g.B ≠ 0 ∧ -(1 + x.Inputs + (k : Int)) ≤ g.B ∧ g.B ≤ 1 + x.Inputs + (k : Int)
    ·simp only [cA, cB, ne_eq, not_false_eq_true, and_self, decide_true, ZmT, Zol, ZmF, ZmQ, ZmD, hg, Znt]
     cases hc:(x.Gates.take k).contains g with
     | true=>simp
     | false=>
      simp only [ZmF,ZmQ,Yk hfit.1 (by omega),Yk hfit.2 (by omega),ZmD]
      by_cases c2:iab g.A < 2
      ·simp [c2]
      ·have e3 : decide (iab g.A < 2) = false := by simp; omega
       simp only [e3,ZmF,ZmQ,ZmD,Znt]
       by_cases c3:iab g.A ≥ iab g.B
       ·simp [c3]
       ·exfalso
        rw [hc] at hok
        have:(decide (-(x.Inputs + 1 + (k:Int)) ≤ g.A ∧ g.A ≤ x.Inputs + 1 + (k:Int)) && decide (-(x.Inputs + 1 + (k:Int)) ≤ g.B ∧ g.B ≤ x.Inputs + 1 + (k:Int)) && decide (2 ≤ iab g.A) && decide (iab g.A < iab g.B) && !false) = true:=by
         simp; omega
        rw [this] at hok; cases hok
    ·have eB : decide (g.B ≠ 0 ∧ -(1 + x.Inputs + (k : Int)) ≤ g.B ∧ g.B ≤ 1 + x.Inputs + (k : Int)) = false := by simpa using cB
     rw [eB]
     simp [cA]
   ·have eA : decide (g.A ≠ 0 ∧ -(1 + x.Inputs + (k : Int)) ≤ g.A ∧ g.A ≤ 1 + x.Inputs + (k : Int)) = false := by simpa using cA
    rw [eA]
    simp
  ·simp only
   rw [ZmI (by rw [Za]; simp),Zn0]
 ·rw [ZmJ (by rw [Za]; simp; omega)]
  have:(decide (0 ≤ x.Inputs ∧ x.Inputs ≤ 30) && decide ((x.Gates.length:Int) ≤ 360)) = false:=by
   simp only [Zo7,decide_eq_false_iff_not]; omega
  rw [this]; rfl
end Go.Proofs.YtgpcokpcbjloiaaGreat.Cc
end
section
namespace Go.Proofs.YtgpcokpcbjloiaaGreat.Cc
open Go.GL
variable {fuel:Nat} [FU fuel]
theorem ZeU {σt ρt:Type} {B:σt → Option (σt ⊕ ρt)} {I:Nat → σt → Prop} {m:Nat} {ok:Nat → Bool} {r:ρt} {r':Nat → ρt} (hs:∀ k s,k < m → I k s → ok k = false → ∃ s',B s = some (.inl s') ∧ I (k + 1) s') (hn:∀ k s,k < m → I k s → ok k = true → B s = some (.inr (r' k)))
  (hf:∀ s,I m s → B s = some (.inr r)):∀ (d k:Nat) (s:σt),k + d = m → I k s → ∀ n,d < n → iterN B n s = some (match (List.range' k d).find? ok with | some i=>r' i | none=>r)
 | 0,k,s,hk,hi,n,hn'=>by
  obtain ⟨n,rfl⟩ : ∃ j,n = j + 1:=⟨n - 1,by omega⟩
  obtain rfl:k = m:=by omega
  unfold iterN; rw [hf s hi]
  simp
 | d + 1,k,s,hk,hi,n,hn'=>by
  obtain ⟨n,rfl⟩ : ∃ j,n = j + 1:=⟨n - 1,by omega⟩
  unfold iterN
  rw [ZoE]
  cases hok:ok k with
  | false=>
   obtain ⟨s',h1,h2⟩:=hs k s (by omega) hi hok
   rw [h1]
   simp only
   rw [ZeU hs hn hf d (k + 1) s' (by omega) h2 n (by omega),Zpf,hok]
  | true=>
   rw [hn k s (by omega) hi hok,Zpf,hok]
def find (l:List D.Gate) (g:D.Gate):Option Nat:=(List.range' 0 l.length).find? fun i=>decide (l[i]? = some g)
theorem Zjn {l:List D.Gate} {g:D.Gate} {i:Nat} (h:find l g = some i):i < l.length ∧ l[i]? = some g:=by
 have:=List.find?_some h
 simp only [ZmN] at this
 exact ⟨(ZmG.1 this).1,this⟩
theorem Zf2 {l:List D.Gate} {g:D.Gate}:find l g = none ↔ g ∉ l:=by
 unfold find
 rw [List.find?_eq_none]
 simp only [Zom,Zog,ZnT,Zqb,ZmN]
 constructor
 ·intro h hm
  obtain ⟨i,hi⟩:=ZnJ.1 hm
  exact h i (ZmG.1 hi).1 hi
 ·intro h i _ hi
  exact h (ZmM hi)
theorem ZjQ {l:List D.Gate} {g h:D.Gate}:find (l ++ [h]) g = (find l g).or (if g = h then some l.length else none):=by
 unfold find
 rw [ZmO,ZnO,List.range'_concat,List.find?_append]
 congr 1
 ·have:∀ n,n ≤ l.length → ∀ k,k + n ≤ l.length → (List.range' k n).find? (fun i=>decide ((l ++ [h])[i]? = some g)) = (List.range' k n).find? (fun i=>decide (l[i]? = some g)):=by
   intro n
   induction n with
   | zero=>intro _ k _; rfl
   | succ n ih=>
    intro hn k hk
    rw [ZoE,Zpf,Zpf,ih (by omega) (k + 1) (by omega),Zna (by omega)]
  exact this _ (ZmY _) 0 (by omega)
 ·simp only [Zog, Nat.one_mul, List.find?_singleton]
  rw [ZmS (ZmY _)]
  simp only [Zof,Zn4,Option.some.injEq,ZmN]
  by_cases e:g = h
  ·rw [ZmJ e,ZmJ e.symm]
  ·rw [ZmI e,ZmI (fun h=>e h.symm)]
def lines (c:D.Circuit):Int:=c.Inputs + 1 + c.Gates.length
def litN (n x:Int):Bool:=decide (1 ≤ iab x) && decide (iab x ≤ n)
theorem litN_iff {n x:Int}:litN n x = true ↔ 1 ≤ iab x ∧ iab x ≤ n:=by unfold litN; simp
theorem YG (x:Int):iab (-x) = iab x:=by unfold iab; split <;> split <;> omega
theorem ZQ {n x:Int}:litN n (-x) = litN n x:=by unfold litN; rw [YG]
theorem litN_mono {n n' x:Int} (h:litN n x = true) (hn:n ≤ n'):litN n' x = true:=by rw [litN_iff] at *; omega
structure CircP (c:D.Circuit):Prop where
 i0:0 ≤ c.Inputs
 i1:c.Inputs ≤ 30
 len:c.Gates.length ≤ 360
 gate:∀ k g,c.Gates[k]? = some g → gateB c.Inputs (c.Gates.take k) g = true
theorem circP_iff {c:D.Circuit}:circB2 c = true ↔ CircP c:=by
 unfold circB2
 simp only [ZmK,ZmN,ZmR,Zom,Zog,ZnT,Zqb]
 constructor
 ·rintro ⟨⟨⟨h1, h2⟩, h3⟩, h4⟩
  refine ⟨h1,h2,by omega,fun k g hg=>?_⟩
  have:=h4 k (ZmG.1 hg).1
  unfold gateAt at this
  rw [hg] at this
  exact this
 ·rintro ⟨h1, h2, h3, h4⟩
  refine ⟨⟨⟨h1,h2⟩,by omega⟩,fun k hk=>?_⟩
  unfold gateAt
  rw [ZmE hk]
  exact h4 k _ (ZmE hk)
theorem CircP.lines0 {c:D.Circuit} (h:CircP c):1 ≤ lines c:=by have:=h.i0; unfold lines; omega
theorem CircP.lines1 {c:D.Circuit} (h:CircP c):lines c ≤ 391:=by have:=h.i1; have:=h.len; unfold lines; omega
theorem Zb9 {n:Int} {l:List D.Gate} {g:D.Gate}:gateB n l g = true ↔ (-(n + 1 + (l.length:Int)) ≤ g.A ∧ g.A ≤ n + 1 + l.length) ∧ (-(n + 1 + (l.length:Int)) ≤ g.B ∧ g.B ≤ n + 1 + l.length) ∧ 2 ≤ iab g.A ∧ iab g.A < iab g.B ∧ g ∉ l:=by
 unfold gateB
 simp only [ZmK,ZmN,Zn9,ZoA,decide_eq_false_iff_not,and_assoc]
theorem CircP.fit {c:D.Circuit} (h:CircP c):ZaM c:=by
 refine ⟨by have:=h.i0; have:=h.i1; unfold fitInt; omega,by have:=h.len; omega,fun g hg=>?_⟩
 obtain ⟨k,hk⟩:=ZnJ.1 hg
 have h1:=Zb9.1 (h.gate k g hk)
 have hl:=(ZmG.1 hk).1
 have h2:=h.len
 have h3:=h.i1
 have:(c.Gates.take k).length ≤ 360:=by rw [ZmP]; omega
 unfold ZaJ fitInt
 omega
theorem CircP.snoc {c:D.Circuit} (h:CircP c) {g:D.Gate} (hl:c.Gates.length < 360) (hg:gateB c.Inputs c.Gates g = true):CircP ⟨c.Inputs,c.Gates ++ [g]⟩:=by
 refine ⟨h.i0,h.i1,by simp; omega,fun k x hx=>?_⟩
 simp only at hx ⊢
 by_cases hk:k < c.Gates.length
 ·rw [Zna hk] at hx
  rw [ZoZ (by omega)]
  exact h.gate k x hx
 ·have hk2 := (ZmG.1 hx).1
  simp at hk2
  obtain rfl:k = c.Gates.length:=by omega
  rw [ZmS (ZmY _)] at hx
  simp at hx
  subst hx
  rw [ZoZ (ZmY _),Zn0]
  exact hg
theorem CircP.find_take {c:D.Circuit} (h:CircP c) {k:Nat} {g:D.Gate} (hk:c.Gates[k]? = some g):find (c.Gates.take k) g = none:=Zf2.2 (Zb9.1 (h.gate k g hk)).2.2.2.2
structure Grow (c c':D.Circuit):Prop where
 inputs:c'.Inputs = c.Inputs
 gates:c.Gates <+: c'.Gates
theorem Grow.refl (c:D.Circuit):Grow c c:=⟨rfl,List.prefix_rfl⟩
theorem Grow.trans {a b c:D.Circuit} (h:Grow a b) (k:Grow b c):Grow a c:=⟨k.1.trans h.1,h.2.trans k.2⟩
theorem Grow.lines {c c':D.Circuit} (h:Grow c c'):lines c ≤ lines c':=by
 have:=h.2.length_le
 have:=h.1
 unfold Proofs.YtgpcokpcbjloiaaGreat.Cc.lines; omega
def gate2 (a b:Int):D.Gate:=if iab a > iab b then ⟨b,a⟩ else ⟨a,b⟩
abbrev BS:=D.Circuit × Bool
def andP (s:BS) (a b:Int):Int × BS:=
 if a = -1 ∨ b = -1 ∨ a = -b then (-1,s) else if a = 1 then (b,s) else if b = 1 ∨ a = b then (a,s) else
 match find s.1.Gates (gate2 a b) with
 | some i=>(s.1.Inputs + 2 + i,s)
 | none=>if 360 ≤ s.1.Gates.length then (-1,(s.1,true)) else (s.1.Inputs + 2 + s.1.Gates.length,(⟨s.1.Inputs,s.1.Gates ++ [gate2 a b]⟩,s.2))
theorem Zku {s:BS} (hs:CircP s.1) {a b:Int} (ha:litN (lines s.1) a = true) (hb:litN (lines s.1) b = true) (h1:¬ (a = -1 ∨ b = -1 ∨ a = -b)) (h2:¬ a = 1) (h3:¬ (b = 1 ∨ a = b)) (hf:find s.1.Gates (gate2 a b) = none):gateB s.1.Inputs s.1.Gates (gate2 a b) = true:=by
 rw [Zb9]
 have hn:=Zf2.1 hf
 rw [litN_iff] at ha hb
 have hl:lines s.1 = s.1.Inputs + 1 + s.1.Gates.length:=rfl
 rw [hl] at ha hb
 refine ⟨?_,?_,?_,?_,hn⟩ <;> (unfold gate2; unfold iab at *; split <;> grind)
theorem ZlC {s:BS} (hs:CircP s.1) {a b:Int} (ha:litN (lines s.1) a = true) (hb:litN (lines s.1) b = true) :
  CircP (andP s a b).2.1 ∧ Grow s.1 (andP s a b).2.1 ∧ litN (lines (andP s a b).2.1) (andP s a b).1 = true:=by
 have h1n:=hs.lines0
 have hi:=hs.i0
 unfold andP
 split
 ·exact ⟨hs,Grow.refl _,litN_iff.2 ⟨by simp [iab],by simpa [iab] using h1n⟩⟩
 ·rename_i c1
  split
  ·exact ⟨hs,Grow.refl _,hb⟩
  ·rename_i c2
   split
   ·exact ⟨hs,Grow.refl _,ha⟩
   ·rename_i c3
    split
    ·rename_i i hf
     refine ⟨hs,Grow.refl _,litN_iff.2 ?_⟩
     have:=(Zjn hf).1
     simp only
     unfold iab lines
     rw [ZmI (by omega)]; omega
    ·rename_i hf
     split
     ·exact ⟨hs,Grow.refl _,litN_iff.2 ⟨by simp [iab],by simpa [iab] using h1n⟩⟩
     ·rename_i c4
      refine ⟨hs.snoc (by omega) (Zku hs ha hb c1 c2 c3 hf),⟨rfl,List.prefix_append _ _⟩,litN_iff.2 ?_⟩
      simp only
      unfold iab lines
      rw [ZmI (by omega)]; simp; omega
theorem YM {n a:Int} (h:litN n a = true) (hn:n ≤ 391):fitInt a ∧ -1000 ≤ a:=by
 rw [litN_iff] at h
 unfold iab at h
 unfold fitInt
 split at h <;> omega
theorem Zj6 (a b:Int):(D.Gate.mk (cond (decide (iab a > iab b)) b a) (cond (decide (iab a > iab b)) a b)) = gate2 a b:=by
 unfold gate2
 by_cases h:iab a > iab b
 ·rw [ZmJ h,decide_eq_true h]; rfl
 ·rw [ZmI h,decide_eq_false h]; rfl
theorem dec3 {a b:Int} (hb : -1000 ≤ b ∧ b ≤ 1000):((((a == (-1)) || (b == (-1))) || (a == (w64 (0 - b)))) = true) ↔ (a = -1 ∨ b = -1 ∨ a = -b):=by
 rw [Zb (by omega) (by omega)]
 simp only [Zn2,ZnK,or_assoc,Int.zero_sub]
theorem ZaC {s:BS} (hs:CircP s.1) {a b:Int} (ha:litN (lines s.1) a = true) (hb:litN (lines s.1) b = true) :
  Zk fuel ⟨s.1,s.2⟩ a b = some ((andP s a b).1,⟨(andP s a b).2.1,(andP s a b).2.2⟩):=by
 have hln:=hs.lines1
 have hi0:=hs.i0
 have hi1:=hs.i1
 have hlen:=hs.len
 have fa:=YM ha hln
 have fb:=YM hb hln
 have hb2:=litN_iff.1 hb
 have hbb : -1000 ≤ b ∧ b ≤ 1000:=by unfold iab at hb2; split at hb2 <;> omega
 unfold Zk andP
 by_cases c1:a = -1 ∨ b = -1 ∨ a = -b
 ·rw [ZmJ ((dec3 hbb).2 c1),ZmJ c1]
 rw [ZmI (fun h=>c1 ((dec3 hbb).1 h)),ZmI c1]
 by_cases c2:a = 1
 ·rw [ZmJ (by simpa using c2),ZmJ c2]
 rw [ZmI (by simpa using c2),ZmI c2]
 by_cases c3:b = 1 ∨ a = b
 ·rw [ZmJ (by simpa using c3),ZmJ c3]
 rw [ZmI (by simpa using c3),ZmI c3]
 simp only [YX fa.1 fa.2,YX fb.1 fb.2,ZmD,Zj6]
 rw [ZeU (I:=fun k t=>t = (k:Int)) (m:=s.1.Gates.length) (ok:=fun k=>decide (s.1.Gates[k]? = some (gate2 a b))) (r:=.inl ()) (r':=fun k=>.inr (s.1.Inputs + 2 + k,⟨s.1,s.2⟩)) (fun k t hk ht hok=>?_) (fun k t hk ht hok=>?_) (fun t ht=>?_) s.1.Gates.length 0 _ (by omega) (by simp) fuel (lt_fuel (by omega))]
 ·show Option.bind (some (match find s.1.Gates (gate2 a b) with | some i => _ | none => _)) _ = _
  cases hf:find s.1.Gates (gate2 a b) with
  | some i=>rfl
  | none=>
   simp only [ZmD]
   by_cases c4:360 ≤ s.1.Gates.length
   ·rw [ZmJ (by rw [Za]; simp; omega),ZmJ c4]
   ·rw [ZmI (by rw [Za]; simp; omega), ZmI c4]
    have happ:app? s.1.Gates [gate2 a b] = some (s.1.Gates ++ [gate2 a b]):=by
     unfold app?; rw [ZmJ (by simp; unfold room; omega)]
    rw [happ]
    simp only [ZmD]
    rw [Za,ZmO,ZnO,Zb (x:=s.1.Inputs + 1) (by omega) (by omega),Zb (by omega) (by omega)]
    congr 2
    omega
 all_goals subst ht
 ·refine ⟨((k + 1 : Nat) : Int), ?_, rfl⟩
  rw [ZmJ (by rw [Za]; simp; omega),get?_nat,ZmE hk]
  rw [ZmE hk] at hok
  simp only [ZmD]
  rw [ZmI (by intro h; simp only [ZmN,decide_eq_false_iff_not,Option.some.injEq] at h hok; exact hok h.symm),Zb (by omega) (by omega)]
  rfl
 ·rw [ZmJ (by rw [Za]; simp; omega), get?_nat, ZmE hk]
  rw [ZmE hk] at hok
  simp only [ZmN,Option.some.injEq] at hok
  simp only [ZmD]
  rw [ZmJ (by simp only [ZmN]; exact hok.symm),Zb (x:=s.1.Inputs + 2) (by omega) (by omega),Zb (by omega) (by omega)]
 ·rw [ZmI (by rw [Za]; simp)]
structure LineOk (n:Int) (l:List D.Gate) (m:List (D.Gate × Int)):Prop where
 look:∀ g,m.lookup g = (find l g).map fun (i:Nat)=>n + 2 + (i:Int)
 len:m.length = l.length
theorem LineOk.nil (n:Int):LineOk n [] []:=⟨fun _=>rfl,rfl⟩
theorem LineOk.snoc {n:Int} {l:List D.Gate} {m:List (D.Gate × Int)} (h:LineOk n l m) {g:D.Gate} (hg:find l g = none):LineOk n (l ++ [g]) ((g,n + 2 + (l.length:Int)) :: m):=by
 refine ⟨fun x=>?_,by simp [h.len]⟩
 rw [Znk,ZjQ]
 by_cases e:x = g
 ·subst e
  simp [hg]
 ·have : (x == g) = false := by simpa using e
  rw [this,ZmI e,h.look x]
  simp
structure RelB (m:D.builder) (s:BS):Prop where
 c:m.c = s.1
 full:m.full = s.2
 line:LineOk s.1.Inputs s.1.Gates m.line
theorem Zkk {a b:Int} (ha:fitInt a) (hb:fitInt b):ZB (gate2 a b) = true:=by
 refine fitK ?_
 unfold gate2
 split
 ·exact ⟨hb,ha⟩
 ·exact ⟨ha,hb⟩
theorem ZiI {a:Int} (h:fitInt a):fitZ a = true:=by
 unfold fitInt at h
 simp only [fitZ,Lit.wf,IntKind.min,IntKind.max,ZmK]
 simp [IntKind.bits,IntKind.signed] at *
 omega
theorem ZaD {m:D.builder} {s:BS} (hr:RelB m s) (hs:CircP s.1) {a b:Int} (ha:litN (lines s.1) a = true) (hb:litN (lines s.1) b = true) :
  ∃ m',Zm m a b = some ((andP s a b).1,m') ∧ RelB m' (andP s a b).2:=by
 obtain ⟨mc,ml,mf⟩:=m
 obtain ⟨sc,sf⟩:=s
 obtain ⟨hc,hf,hl⟩:=hr
 simp only at hc hf hl
 subst hc
 subst hf
 simp only at hs ha hb
 have hln:=hs.lines1
 have hi0:=hs.i0
 have hi1:=hs.i1
 have hlen:=hs.len
 have fa:=YM ha hln
 have fb:=YM hb hln
 have hb2:=litN_iff.1 hb
 have hbb : -1000 ≤ b ∧ b ≤ 1000:=by unfold iab at hb2; split at hb2 <;> omega
 unfold Zm andP
 by_cases c1:a = -1 ∨ b = -1 ∨ a = -b
 ·rw [ZmJ ((dec3 hbb).2 c1),ZmJ c1]; exact ⟨_,rfl,⟨rfl,rfl,hl⟩⟩
 rw [ZmI (fun h=>c1 ((dec3 hbb).1 h)),ZmI c1]
 by_cases c2:a = 1
 ·rw [ZmJ (by simpa using c2),ZmJ c2]; exact ⟨_,rfl,⟨rfl,rfl,hl⟩⟩
 rw [ZmI (by simpa using c2),ZmI c2]
 by_cases c3:b = 1 ∨ a = b
 ·rw [ZmJ (by simpa using c3),ZmJ c3]; exact ⟨_,rfl,⟨rfl,rfl,hl⟩⟩
 rw [ZmI (by simpa using c3),ZmI c3]
 simp only [Yk fa.1 fa.2,Yk fb.1 fb.2,ZmD]
 have hgf:=Zkk fa.1 fb.1
 have hgm:mget2? ZB (0:Int) ml (gate2 a b) = some (((find mc.Gates (gate2 a b)).map fun (i:Nat)=>mc.Inputs + 2 + (i:Int)).getD 0,((find mc.Gates (gate2 a b)).map fun (i:Nat)=>mc.Inputs + 2 + (i:Int)).isSome):=by
  unfold mget2?; rw [ZmJ hgf,hl.look]
 have key:((mget2? ZB (0:Int) ml (gate2 a b)).bind fun x3=>
     if x3.2 then
      some (x3.1,(⟨mc,ml,mf⟩ : D.builder))
     else
      if (decide ((len mc.Gates) ≥ 360)) then
       some ((-1),(D.builder.mk mc ml true))
      else
       (app? mc.Gates ([gate2 a b]:List D.Gate)).bind fun x4=>
       (Yg (D.Circuit.mk mc.Inputs x4)).bind fun x5=>
       (mputE? ZB fitZ ml (gate2 a b) x5).bind fun x6=>
       some (x5,(D.builder.mk (D.Circuit.mk mc.Inputs x4) x6 mf))) = match find mc.Gates (gate2 a b) with
    | some i=>some (mc.Inputs + 2 + i,⟨mc,ml,mf⟩)
    | none=>if 360 ≤ mc.Gates.length then some (-1,⟨mc,ml,true⟩) else some (mc.Inputs + 2 + mc.Gates.length,⟨⟨mc.Inputs,mc.Gates ++ [gate2 a b]⟩,(gate2 a b,mc.Inputs + 2 + (mc.Gates.length:Int)) :: ml,mf⟩):=by
  rw [hgm]
  cases hf:find mc.Gates (gate2 a b) with
  | some i=>rfl
  | none=>
   simp only [ZmD,Option.map_none,ZoQ,ZmF,ZmQ]
   by_cases c4:360 ≤ mc.Gates.length
   ·rw [ZmJ (by rw [Za]; simp; omega),ZmJ c4]
   ·rw [ZmI (by rw [Za]; simp; omega), ZmI c4]
    have happ:app? mc.Gates [gate2 a b] = some (mc.Gates ++ [gate2 a b]):=by
     unfold app?; rw [ZmJ (by simp; unfold room; omega)]
    have hlo:Yg (D.Circuit.mk mc.Inputs (mc.Gates ++ [gate2 a b])) = some (mc.Inputs + 2 + mc.Gates.length):=by
     unfold Yg
     rw [Za,ZmO,ZnO,Zb (x:=1 + mc.Inputs) (by omega) (by omega),Zb (by omega) (by omega)]
     congr 1; omega
    have hpt:mputE? ZB fitZ ml (gate2 a b) (mc.Inputs + 2 + mc.Gates.length) = some ((gate2 a b,mc.Inputs + 2 + (mc.Gates.length:Int)) :: ml):=by
     unfold mputE?
     rw [ZmJ ⟨hgf,ZiI (by unfold fitInt; omega),by rw [hl.len]; unfold room; omega⟩]
    rw [happ]
    simp only [ZmD,hlo,hpt]
 have hbr:(if (decide (iab a > iab b)) then
     (mget2? ZB (0:Int) ml (D.Gate.mk b a)).bind fun x3=>
     if x3.2 then
      some (x3.1,(⟨mc,ml,mf⟩ : D.builder))
     else
      if (decide ((len mc.Gates) ≥ 360)) then
       some ((-1),(D.builder.mk mc ml true))
      else
       (app? mc.Gates ([(D.Gate.mk b a)]:List D.Gate)).bind fun x4=>
       (Yg (D.Circuit.mk mc.Inputs x4)).bind fun x5=>
       (mputE? ZB fitZ ml (D.Gate.mk b a) x5).bind fun x6=>
       some (x5,(D.builder.mk (D.Circuit.mk mc.Inputs x4) x6 mf))
    else
     (mget2? ZB (0:Int) ml (D.Gate.mk a b)).bind fun x7=>
     if x7.2 then
      some (x7.1,(⟨mc,ml,mf⟩ : D.builder))
     else
      if (decide ((len mc.Gates) ≥ 360)) then
       some ((-1),(D.builder.mk mc ml true))
      else
       (app? mc.Gates ([(D.Gate.mk a b)]:List D.Gate)).bind fun x8=>
       (Yg (D.Circuit.mk mc.Inputs x8)).bind fun x9=>
       (mputE? ZB fitZ ml (D.Gate.mk a b) x9).bind fun x10=>
       some (x9,(D.builder.mk (D.Circuit.mk mc.Inputs x8) x10 mf))) = match find mc.Gates (gate2 a b) with
    | some i=>some (mc.Inputs + 2 + i,⟨mc,ml,mf⟩)
    | none=>if 360 ≤ mc.Gates.length then some (-1,⟨mc,ml,true⟩) else some (mc.Inputs + 2 + mc.Gates.length,⟨⟨mc.Inputs,mc.Gates ++ [gate2 a b]⟩,(gate2 a b,mc.Inputs + 2 + (mc.Gates.length:Int)) :: ml,mf⟩):=by
  rw [← key]
  by_cases c5:iab a > iab b
  ·rw [ZmJ (by simpa using c5)]
   have:gate2 a b = ⟨b,a⟩:=by unfold gate2; rw [ZmJ c5]
   rw [this]
  ·rw [ZmI (by simpa using c5)]
   have:gate2 a b = ⟨a,b⟩:=by unfold gate2; rw [ZmI c5]
   rw [this]
 rw [hbr]
 cases hf:find mc.Gates (gate2 a b) with
 | some i=>exact ⟨_,rfl,⟨rfl,rfl,hl⟩⟩
 | none=>
  simp only
  by_cases c4:360 ≤ mc.Gates.length
  ·rw [ZmJ c4,ZmJ c4]; exact ⟨_,rfl,⟨rfl,rfl,hl⟩⟩
  ·rw [ZmI c4,ZmI c4]; exact ⟨_,rfl,⟨rfl,rfl,hl.snoc hf⟩⟩
end Go.Proofs.YtgpcokpcbjloiaaGreat.Cc
end
section
namespace Go.Proofs.YtgpcokpcbjloiaaGreat.Cc
open Go.GL
variable {fuel:Nat} [FU fuel]
abbrev net (s:BS):D.l04Net:=⟨s.1,s.2⟩
structure Good (s:BS) (r:Int × BS):Prop where
 circ:CircP r.2.1
 grow:Grow s.1 r.2.1
 lit:litN (lines r.2.1) r.1 = true
def SpecOp (f:D.l04Net → Option (Int × D.l04Net)) (s:BS) (r:Int × BS):Prop:=f (net s) = some (r.1,net r.2)
def ImplOp (f:D.builder → Option (Int × D.builder)) (s:BS) (r:Int × BS):Prop:=∀ m,RelB m s → ∃ m',f m = some (r.1,m') ∧ RelB m' r.2
def orP (s:BS) (a b:Int):Int × BS:=let r:=andP s (-a) (-b); (-r.1,r.2)
def xorP (s:BS) (a b:Int):Int × BS:=let p:=andP s a (-b); let q:=andP p.2 (-a) b; orP q.2 p.1 q.1
def ifP (s:BS) (c a b:Int):Int × BS:=let p:=andP s c a; let q:=andP p.2 (-c) b; orP q.2 p.1 q.1
theorem Yc {n x:Int} (h:litN n x = true) (hn:n ≤ 391):w64 (0 - x) = -x:=by
 have:=YM h hn
 rw [litN_iff] at h
 unfold iab at h
 rw [Zb (by split at h <;> omega) (by split at h <;> omega)]; omega
section
variable {s:BS} (hs:CircP s.1)
include hs
theorem Y5 {a b:Int} (ha:litN (lines s.1) a = true) (hb:litN (lines s.1) b = true):Good s (andP s a b):=by
 obtain ⟨h1,h2,h3⟩:=ZlC hs ha hb
 exact ⟨h1,h2,h3⟩
theorem Zel {a b:Int} (ha:litN (lines s.1) a = true) (hb:litN (lines s.1) b = true):Good s (orP s a b):=by
 obtain ⟨h1,h2,h3⟩:=Y5 hs (a:=-a) (b:=-b) (by rw [ZQ]; exact ha) (by rw [ZQ]; exact hb)
 exact ⟨h1,h2,by simp only [orP]; rw [ZQ]; exact h3⟩
theorem Zej {a b:Int} (ha:litN (lines s.1) a = true) (hb:litN (lines s.1) b = true):SpecOp (fun n=>Zq fuel n a b) s (orP s a b):=by
 have hn:=hs.lines1
 have g:=Y5 hs (a:=-a) (b:=-b) (by rw [ZQ]; exact ha) (by rw [ZQ]; exact hb)
 unfold SpecOp Zq orP
 simp only
 rw [Yc ha hn,Yc hb hn,ZaC hs (by rw [ZQ]; exact ha) (by rw [ZQ]; exact hb)]
 simp only [ZmD]
 rw [Yc g.lit g.circ.lines1]
theorem Zeo {a b:Int} (ha:litN (lines s.1) a = true) (hb:litN (lines s.1) b = true):ImplOp (fun m=>Z0 m a b) s (orP s a b):=by
 intro m hm
 have hn:=hs.lines1
 have g:=Y5 hs (a:=-a) (b:=-b) (by rw [ZQ]; exact ha) (by rw [ZQ]; exact hb)
 obtain ⟨m',h1,h2⟩:=ZaD hm hs (a:=-a) (b:=-b) (by rw [ZQ]; exact ha) (by rw [ZQ]; exact hb)
 refine ⟨m',?_,h2⟩
 unfold Z0 orP
 simp only
 rw [Yc ha hn,Yc hb hn,h1]
 simp only [ZmD]
 rw [Yc g.lit g.circ.lines1]
theorem if_good {c a b:Int} (hc:litN (lines s.1) c = true) (ha:litN (lines s.1) a = true) (hb:litN (lines s.1) b = true):Good s (ifP s c a b):=by
 have g1:=Y5 hs hc ha
 have g2:=Y5 g1.circ (a:=-c) (b:=b) (by rw [ZQ]; exact litN_mono hc g1.grow.lines) (litN_mono hb g1.grow.lines)
 have g3:=Zel g2.circ (a:=(andP s c a).1) (b:=(andP (andP s c a).2 (-c) b).1) (litN_mono g1.lit g2.grow.lines) g2.lit
 exact ⟨g3.circ,(g1.grow.trans g2.grow).trans g3.grow,g3.lit⟩
theorem Zfx {c a b:Int} (hc:litN (lines s.1) c = true) (ha:litN (lines s.1) a = true) (hb:litN (lines s.1) b = true):((Zk fuel (net s) c a).bind fun x1=>
 (Zk fuel x1.2 (w64 (0 - c)) b).bind fun x2=>
 (Zq fuel x2.2 x1.1 x2.1).bind fun x3=>
 some (x3.1,x3.2)) = some ((ifP s c a b).1,net (ifP s c a b).2):=by
 have g1:=Y5 hs hc ha
 have hc':litN (lines (andP s c a).2.1) (-c) = true:=by rw [ZQ]; exact litN_mono hc g1.grow.lines
 have g2:=Y5 g1.circ (a:=-c) (b:=b) hc' (litN_mono hb g1.grow.lines)
 unfold ifP
 simp only
 rw [ZaC hs hc ha]
 simp only [ZmD]
 rw [Yc hc hs.lines1,ZaC g1.circ hc' (litN_mono hb g1.grow.lines)]
 simp only [ZmD]
 have h3:Zq fuel _ _ _ = _:=Zej (fuel:=fuel) g2.circ (a:=(andP s c a).1) (b:=(andP (andP s c a).2 (-c) b).1) (litN_mono g1.lit g2.grow.lines) g2.lit
 rw [h3]
 rfl
theorem Zfn {c a b:Int} (hc:litN (lines s.1) c = true) (ha:litN (lines s.1) a = true) (hb:litN (lines s.1) b = true):∀ m,RelB m s → ∃ m',((Zm m c a).bind fun x1=>
 (Zm x1.2 (w64 (0 - c)) b).bind fun x2=>
 (Z0 x2.2 x1.1 x2.1).bind fun x3=>
 some (x3.1,x3.2)) = some ((ifP s c a b).1,m') ∧ RelB m' (ifP s c a b).2:=by
 intro m hm
 have g1:=Y5 hs hc ha
 have hc':litN (lines (andP s c a).2.1) (-c) = true:=by rw [ZQ]; exact litN_mono hc g1.grow.lines
 have g2:=Y5 g1.circ (a:=-c) (b:=b) hc' (litN_mono hb g1.grow.lines)
 obtain ⟨m1,e1,r1⟩:=ZaD hm hs hc ha
 obtain ⟨m2,e2,r2⟩:=ZaD r1 g1.circ hc' (litN_mono hb g1.grow.lines)
 obtain ⟨m3,e3,r3⟩:=Zeo g2.circ (a:=(andP s c a).1) (b:=(andP (andP s c a).2 (-c) b).1) (litN_mono g1.lit g2.grow.lines) g2.lit m2 r2
 refine ⟨m3,?_,r3⟩
 unfold ifP
 simp only
 rw [e1]
 simp only [ZmD]
 rw [Yc hc hs.lines1,e2]
 simp only [ZmD]
 simp only at e3
 rw [e3]
 rfl
theorem spec_if {c a b:Int} (hc:litN (lines s.1) c = true) (ha:litN (lines s.1) a = true) (hb:litN (lines s.1) b = true):SpecOp (fun n=>Zl fuel n c a b) s (ifP s c a b):=by
 unfold SpecOp Zl
 exact Zfx hs hc ha hb
theorem impl_if {c a b:Int} (hc:litN (lines s.1) c = true) (ha:litN (lines s.1) a = true) (hb:litN (lines s.1) b = true):ImplOp (fun m=>Zc m c a b) s (ifP s c a b):=by
 unfold ImplOp Zc
 exact Zfn hs hc ha hb
theorem XX {a b:Int} (ha:litN (lines s.1) a = true) (hb:litN (lines s.1) b = true):Good s (xorP s a b):=
 if_good hs (c:=a) (a:=-b) (b:=b) ha (by rw [ZQ]; exact hb) hb
theorem ZcY {a b:Int} (ha:litN (lines s.1) a = true) (hb:litN (lines s.1) b = true):SpecOp (fun n=>Zn fuel n a b) s (xorP s a b):=by
 have h:=Zfx (fuel:=fuel) hs (c:=a) (a:=-b) (b:=b) ha (by rw [ZQ]; exact hb) hb
 unfold SpecOp
 unfold Zn
 rw [Yc hb hs.lines1]
 exact h
theorem Zdv {a b:Int} (ha:litN (lines s.1) a = true) (hb:litN (lines s.1) b = true):ImplOp (fun m=>Z5 m a b) s (xorP s a b):=by
 intro m hm
 obtain ⟨m',e,r⟩:=Zfn hs (c:=a) (a:=-b) (b:=b) ha (by rw [ZQ]; exact hb) hb m hm
 refine ⟨m',?_,r⟩
 simp only at e ⊢
 unfold Z5
 rw [Yc hb hs.lines1]
 exact e
end
theorem ZcP {n x:Int} (hn:0 ≤ n):(decide (x ≠ 0) && (decide (-n ≤ x) && decide (x ≤ n))) = litN n x:=by
 unfold litN iab
 split <;> grind
theorem Zj7 {l:List Int} {n:Int} (h0:0 ≤ n) (h1:n ≤ 1000) (hl:l.length ≤ 1048576):YN fuel l n = some (l.all (litN n)):=by
 unfold YN
 rw [Zai (I:=fun k t=>t = (k:Int)) (m:=l.length) (ok:=fun k=>(l[k]?).all (litN n)) (r:=.inl ()) (r':=.inr false) (fun k t hk ht hok=>?_) (fun k t hk ht hok=>?_) (fun t ht=>?_) l.length 0 _ (by omega) (by simp) fuel (lt_fuel hl)]
 ·have:((List.range' 0 l.length).all fun k=>(l[k]?).all (litN n)) = l.all (litN n):=by
   rw [ZnP,ZmR,ZmR]
   constructor
   ·intro h x hx
    obtain ⟨i,hi⟩:=ZnJ.1 hx
    have:=h i (by simp [Zom]; exact (ZmG.1 hi).1)
    rw [hi] at this; simpa using this
   ·intro h i hi
    simp [Zom] at hi
    rw [ZmE hi]
    simpa using h _ (Zns hi)
  rw [this]
  cases l.all (litN n) <;> simp
 all_goals subst ht
 ·refine ⟨((k + 1 : Nat) : Int), ?_, rfl⟩
  rw [ZmJ (by rw [Za]; simp; omega),get?_nat,ZmE hk]
  rw [ZmE hk] at hok
  simp only [Zpg] at hok
  rw [← ZcP h0] at hok
  simp only [ZmK,ZmN] at hok
  simp only [ZmD]
  rw [ZmI (by simpa using hok.1),Zg,Zb (x:=0 - n) (by omega) (by omega)]
  simp only [ZmD]
  rw [ZmI (by simp; omega),Zb (by omega) (by omega)]
  rfl
 ·rw [ZmJ (by rw [Za]; simp; omega), get?_nat, ZmE hk]
  rw [ZmE hk] at hok
  simp only [Zpg] at hok
  rw [← ZcP h0] at hok
  simp only [ZmD]
  by_cases c:l[k] = 0
  ·rw [ZmJ (by simpa using c)]
   simp [c]
  ·rw [ZmI (by simpa using c), Zg, Zb (x := 0 - n) (by omega) (by omega)]
   simp only [ZmD]
   have:(decide (l[k] ≥ 0 - n) && decide (l[k] ≤ n)) = false:=by
    simp only [ne_eq,c,not_false_eq_true,decide_true,Zn1] at hok
    rw [← hok]; congr 2; simp
   rw [this]
   simp
 ·rw [ZmI (by rw [Za]; simp)]
theorem ZcQ {x n:Int} (h0:0 ≤ n) (h1:n ≤ 1000):ZJ x n = some (litN n x):=by
 unfold ZJ
 rw [Zb (by omega) (by omega),← ZcP h0,Bool.and_assoc]
 congr 1
 have e1:(x != 0) = decide (x ≠ 0):=by cases h:x != 0 <;> simp_all
 have e2:decide (x ≥ 0 - n) = decide (-n ≤ x):=by simp
 rw [e1,e2]
theorem ZbB {l:List Int} {n:Int} (h0:0 ≤ n) (h1:n ≤ 1000) (hl:l.length ≤ 1048576):Yn fuel l n = some (l.all (litN n)):=by
 unfold Yn
 rw [Zai (I:=fun k t=>t = (k:Int)) (m:=l.length) (ok:=fun k=>(l[k]?).all (litN n)) (r:=.inl ()) (r':=.inr false) (fun k t hk ht hok=>?_) (fun k t hk ht hok=>?_) (fun t ht=>?_) l.length 0 _ (by omega) (by simp) fuel (lt_fuel hl)]
 ·have:((List.range' 0 l.length).all fun k=>(l[k]?).all (litN n)) = l.all (litN n):=by
   rw [ZnP,ZmR,ZmR]
   constructor
   ·intro h x hx
    obtain ⟨i,hi⟩:=ZnJ.1 hx
    have:=h i (by simp [Zom]; exact (ZmG.1 hi).1)
    rw [hi] at this; simpa using this
   ·intro h i hi
    simp [Zom] at hi
    rw [ZmE hi]
    simpa using h _ (Zns hi)
  rw [this]
  cases l.all (litN n) <;> simp
 all_goals subst ht
 ·refine ⟨((k + 1 : Nat) : Int), ?_, rfl⟩
  rw [ZmJ (by rw [Za]; simp; omega),get?_nat,ZmE hk]
  rw [ZmE hk] at hok
  simp only [Zpg] at hok
  simp only [ZmD,ZcQ h0 h1,hok]
  rw [ZmI (by simp),Zb (by omega) (by omega)]
  rfl
 ·rw [ZmJ (by rw [Za]; simp; omega), get?_nat, ZmE hk]
  rw [ZmE hk] at hok
  simp only [Zpg] at hok
  simp only [ZmD,ZcQ h0 h1,hok]
  rw [ZmJ (by simp)]
 ·rw [ZmI (by rw [Za]; simp)]
theorem Zio {c:D.Circuit} (hc:CircP c) {l:List Int} (hl:l.length ≤ 1048576):Zan fuel c l = some (l.all (litN (lines c))):=by
 have:=hc.i0
 have:=hc.i1
 have:=hc.len
 unfold Zan
 rw [Za,Zb (x:=c.Inputs + 1) (by omega) (by omega),Zb (by omega) (by omega)]
 show Option.bind (YN fuel l (lines c)) _ = _
 rw [Zj7 (by have:=hc.lines0; omega) (by have:=hc.lines1; omega) hl]
 rfl
theorem ZhG {c:D.Circuit} (hc:CircP c):Yg c = some (lines c):=by
 have:=hc.i0
 have:=hc.i1
 have:=hc.len
 unfold Yg
 rw [Za,Zb (x:=1 + c.Inputs) (by omega) (by omega),Zb (by omega) (by omega)]
 unfold lines
 congr 1; omega
theorem spec_new {c:D.Circuit} (hc:CircP c):ZaI c = some (net (c,false)):=by
 have:=hc.len
 unfold ZaI
 have:app? ([]:List D.Gate) c.Gates = some c.Gates:=by
  unfold app?; rw [ZmJ (by simp; unfold room; omega)]; simp
 rw [this]
 rfl
theorem impl_new {c:D.Circuit} (hc:CircP c):∃ m,X4 fuel c = some m ∧ RelB m (c,false):=by
 have h0:=hc.i0
 have h1:=hc.i1
 have h2:=hc.len
 have hcl:ZE c.Gates = some c.Gates:=by
  unfold ZE
  have:app? ([]:List D.Gate) c.Gates = some c.Gates:=by
   unfold app?; rw [ZmJ (by simp; unfold room; omega)]; simp
  rw [this]; rfl
 let mk:Nat → List (D.Gate × Int):=fun k=>((List.range k).reverse.map fun i=>(c.Gates.getD i default,c.Inputs + 2 + (i:Int)))
 have hmk:∀ k,k < c.Gates.length → mk (k + 1) = (c.Gates.getD k default,c.Inputs + 2 + (k:Int)) :: mk k:=by
  intro k hk
  simp only [mk]
  rw [Zo8,List.reverse_append,List.reverse_singleton,Zny,ZmX]
 have hln:∀ k,k ≤ c.Gates.length → LineOk c.Inputs (c.Gates.take k) (mk k):=by
  intro k
  induction k with
  | zero=>intro _; exact LineOk.nil _
  | succ k ih=>
   intro hk
   have hk':k < c.Gates.length:=by omega
   have hg:c.Gates[k]? = some (c.Gates.getD k default):=by
    rw [ZmE hk',ZmL,ZmE hk']; rfl
   rw [hmk k hk',Zni hk']
   have:=(ih (by omega)).snoc (hc.find_take hg)
   have e:c.Gates.getD k default = c.Gates[k]:=by rw [ZmE hk'] at hg; exact (Option.some.inj hg).symm
   rw [e] at this ⊢
   rw [ZmP,Zon (by omega)] at this
   exact this
 refine ⟨⟨c,mk c.Gates.length,false⟩,?_,⟨rfl,rfl,?_⟩⟩
 ·unfold X4
  rw [hcl]
  simp only [ZmD]
  rw [Ya (I:=fun k t=>t = ((k:Int),mk k)) (m:=c.Gates.length) (r:=mk c.Gates.length) (fun k t hk ht=>?_) (fun t ht=>?_) c.Gates.length 0 _ (by omega) (by simp [mk]) fuel (lt_fuel (by omega))]
  ·rfl
  all_goals subst ht
  ·refine ⟨(((k + 1 : Nat) : Int), mk (k + 1)), ?_, rfl⟩
   have hfit:ZaJ c.Gates[k]:=hc.fit.2.2 _ (Zns hk)
   simp only
   rw [ZmJ (by rw [Za]; simp; omega),get?_nat,ZmE hk]
   simp only [ZmD]
   rw [Zb (x:=2 + c.Inputs) (by omega) (by omega),Zb (x:=2 + c.Inputs + (k:Int)) (by omega) (by omega)]
   have e:c.Gates.getD k default = c.Gates[k]:=by rw [ZmL,ZmE hk]; rfl
   have hp:mputE? ZB fitZ (mk k) c.Gates[k] (2 + c.Inputs + (k:Int)) = some (mk (k + 1)):=by
    unfold mputE?
    rw [ZmJ ⟨fitK hfit,ZiI (by unfold fitInt; omega),by rw [(hln k (by omega)).len]; unfold room; simp; omega⟩,hmk k hk,e]
    congr 3; omega
   rw [hp]
   simp only [ZmD]
   rw [Zb (by omega) (by omega)]
   rfl
  ·simp only
   rw [ZmI (by rw [Za]; simp)]
 ·have := hln c.Gates.length (ZmY _)
  rw [Zn0] at this
  exact this
abbrev AS:=List Int × Int × BS
def addStep (t:AS) (p:Int × Int):AS:=
 let x:=xorP t.2.2 p.1 p.2
 let o:=xorP x.2 x.1 t.2.1
 let y:=andP o.2 p.1 p.2
 let z:=andP y.2 x.1 t.2.1
 let w:=orP z.2 y.1 z.1
 (t.1 ++ [o.1],w.1,w.2)
def addP (s:BS) (a b:List Int) (c:Int):AS:=(a.zip b).foldl addStep ([],c,s)
theorem Zfc {α β:Type} (f:β → α → β) (Pp:Nat → β → Prop) (l:List α) (b:β) (h0:Pp 0 b) (hs:∀ k x t,l[k]? = some x → Pp k t → Pp (k + 1) (f t x)):∀ k,k ≤ l.length → Pp k ((l.take k).foldl f b):=by
 intro k
 induction k with
 | zero=>intro _; exact h0
 | succ k ih=>
  intro hk
  rw [Zni (by omega),ZnS]
  exact hs k _ _ (ZmE (by omega)) (ih (by omega))
structure GoodA (s:BS) (k:Nat) (t:AS):Prop where
 circ:CircP t.2.2.1
 grow:Grow s.1 t.2.2.1
 lit:litN (lines t.2.2.1) t.2.1 = true
 len:t.1.length = k
 lits:∀ x ∈ t.1,litN (lines t.2.2.1) x = true
theorem Zkb {s:BS} {k:Nat} {t:AS} (h:GoodA s k t) {p:Int × Int} (h1:litN (lines s.1) p.1 = true) (h2:litN (lines s.1) p.2 = true):GoodA s (k + 1) (addStep t p):=by
 have a1:=litN_mono h1 h.grow.lines
 have a2:=litN_mono h2 h.grow.lines
 have gx:=XX h.circ a1 a2
 have go:=XX gx.circ gx.lit (litN_mono h.lit gx.grow.lines)
 have e1:=gx.grow.trans go.grow
 have gy:=Y5 go.circ (litN_mono a1 e1.lines) (litN_mono a2 e1.lines)
 have e2:=go.grow.trans gy.grow
 have e3:=gx.grow.trans e2
 have gz:=Y5 gy.circ (litN_mono gx.lit e2.lines) (litN_mono h.lit e3.lines)
 have gw:=Zel gz.circ (litN_mono gy.lit gz.grow.lines) gz.lit
 have e4:=gy.grow.trans (gz.grow.trans gw.grow)
 have e5:=e1.trans e4
 refine ⟨gw.circ,h.grow.trans e5,gw.lit,by simp [addStep,h.len],fun x hx=>?_⟩
 simp only [addStep,Znb,Znm] at hx
 rcases hx with hx | rfl
 ·exact litN_mono (h.lits x hx) e5.lines
 ·exact litN_mono go.lit e4.lines
theorem zip_mem {a b:List Int} {p:Int × Int} {k:Nat} (h:(a.zip b)[k]? = some p):a[k]? = some p.1 ∧ b[k]? = some p.2:=by
 rw [List.getElem?_zip_eq_some] at h
 exact h
theorem ZdU {s:BS} (hs:CircP s.1) {a b:List Int} {c:Int} (ha:∀ x ∈ a,litN (lines s.1) x = true) (hb:∀ x ∈ b,litN (lines s.1) x = true) (hc:litN (lines s.1) c = true) :
  ∀ k,k ≤ (a.zip b).length → GoodA s k (((a.zip b).take k).foldl addStep ([],c,s)):=
 Zfc addStep (GoodA s) _ _ ⟨hs,Grow.refl _,hc,rfl,fun _ h=>by cases h⟩ fun k p t hp ht=>Zkb ht (ha _ (ZmM (zip_mem hp).1)) (hb _ (ZmM (zip_mem hp).2))
theorem XP {s:BS} (hs:CircP s.1) {a b:List Int} {c:Int} (hab:a.length = b.length) (ha:∀ x ∈ a,litN (lines s.1) x = true) (hb:∀ x ∈ b,litN (lines s.1) x = true) (hc:litN (lines s.1) c = true):GoodA s a.length (addP s a b c):=by
 have:=ZdU hs ha hb hc (a.zip b).length (ZmY _)
 rw [Zn0,ZnQ,← hab,ZoY] at this
 exact this
theorem Zcl {s:BS} (hs:CircP s.1) {a b:List Int} {c:Int} (hl:a.length ≤ 1048576) (hab:a.length = b.length) (ha:∀ x ∈ a,litN (lines s.1) x = true) (hb:∀ x ∈ b,litN (lines s.1) x = true) (hc:litN (lines s.1) c = true) :
  ZH fuel (net s) a b c = some ((addP s a b c).1,(addP s a b c).2.1,net (addP s a b c).2.2):=by
 have hz:(a.zip b).length = a.length:=by rw [ZnQ,← hab,ZoY]
 unfold ZH
 rw [Ya (I:=fun k t=>t = (let r:=((a.zip b).take k).foldl addStep ([],c,s); (r.2.1,(k:Int),r.1,r.2.2.1.Inputs,r.2.2.2,r.2.2.1.Gates))) (m:=a.length) (r:=(let r:=addP s a b c; (r.2.1,r.1,r.2.2.1.Inputs,r.2.2.2,r.2.2.1.Gates))) (fun k t hk ht=>?_) (fun t ht=>?_) a.length 0 _ (by omega) (by simp) fuel (lt_fuel hl)]
 ·rfl
 all_goals subst ht
 ·refine ⟨_, ?_, rfl⟩
  have hk':k < (a.zip b).length:=by omega
  have hkb:k < b.length:=by omega
  have h:=ZdU hs ha hb hc k (by omega)
  rw [Zni hk',ZnS,List.getElem_zip]
  generalize ((a.zip b).take k).foldl addStep ([],c,s) = t at h ⊢
  have a1:=litN_mono (ha _ (Zns hk)) h.grow.lines
  have a2:=litN_mono (hb _ (Zns hkb)) h.grow.lines
  have gx:=XX h.circ a1 a2
  have go:=XX gx.circ gx.lit (litN_mono h.lit gx.grow.lines)
  have e1:=gx.grow.trans go.grow
  have gy:=Y5 go.circ (litN_mono a1 e1.lines) (litN_mono a2 e1.lines)
  have e2:=go.grow.trans gy.grow
  have e3:=gx.grow.trans e2
  have gz:=Y5 gy.circ (litN_mono gx.lit e2.lines) (litN_mono h.lit e3.lines)
  have sx:Zn fuel (net t.2.2) _ _ = _:=ZcY (fuel:=fuel) h.circ a1 a2
  have so:Zn fuel (net _) _ _ = _:=ZcY (fuel:=fuel) gx.circ gx.lit (litN_mono h.lit gx.grow.lines)
  have sy:=ZaC (fuel:=fuel) go.circ (litN_mono a1 e1.lines) (litN_mono a2 e1.lines)
  have sz:=ZaC (fuel:=fuel) gy.circ (litN_mono gx.lit e2.lines) (litN_mono h.lit e3.lines)
  have sw:Zq fuel (net _) _ _ = _:=Zej (fuel:=fuel) gz.circ (litN_mono gy.lit gz.grow.lines) gz.lit
  simp only
  rw [ZmJ (by rw [Za]; simp; omega),get?_nat,get?_nat,ZmE hk,ZmE hkb]
  simp only [ZmD]
  have sx':Zn fuel (D.l04Net.mk (D.Circuit.mk t.2.2.1.Inputs t.2.2.1.Gates) t.2.2.2) a[k] b[k] = _:=sx
  rw [sx']
  simp only [ZmD]
  rw [so]
  simp only [ZmD]
  have happ:app? t.1 [(xorP (xorP t.2.2 a[k] b[k]).2 (xorP t.2.2 a[k] b[k]).1 t.2.1).1] = some (t.1 ++ [(xorP (xorP t.2.2 a[k] b[k]).2 (xorP t.2.2 a[k] b[k]).1 t.2.1).1]):=by
   unfold app?; rw [ZmJ (by simp [h.len]; unfold room; omega)]
  rw [happ]
  simp only [ZmD]
  rw [sy]
  simp only [ZmD]
  rw [sz]
  simp only [ZmD]
  rw [sw]
  simp only [ZmD]
  rw [Zb (by omega) (by omega)]
  rfl
 ·simp only
  rw [ZmI (by rw [Za]; simp)]
  unfold addP
  rw [Zn8 (by omega)]
theorem set_fill {l:List Int} {n:Nat} {x:Int}:(l ++ List.replicate (n + 1) 0).set l.length x = (l ++ [x]) ++ List.replicate n 0:=by
 rw [ZnE _ _ (ZmY _),Zof,ZoH,Zoi,Znf,Zny]
theorem Zcw {s:BS} (hs:CircP s.1) {m:D.builder} (hm:RelB m s) {a b:List Int} {c:Int} (hl:a.length ≤ 1048576) (hab:a.length = b.length) (ha:∀ x ∈ a,litN (lines s.1) x = true) (hb:∀ x ∈ b,litN (lines s.1) x = true) (hc:litN (lines s.1) c = true) :
  ∃ m',ZR fuel m a b c = some ((addP s a b c).1,(addP s a b c).2.1,m') ∧ RelB m' (addP s a b c).2.2:=by
 have hz:(a.zip b).length = a.length:=by rw [ZnQ,← hab,ZoY]
 obtain ⟨mc,ml,mf⟩:=m
 obtain ⟨sc,sf⟩:=s
 obtain ⟨hc1,hf1,hl1⟩:=hm
 simp only at hc1 hf1 hl1
 subst hc1
 subst hf1
 simp only at hs ha hb hc
 have main:∀ (d k:Nat) (ln:List (D.Gate × Int)),k + d = a.length →
   (let r:=((a.zip b).take k).foldl addStep ([],c,(mc,mf)); RelB ⟨r.2.2.1,ln,r.2.2.2⟩ r.2.2) → ∀ n,d < n → ∃ ln',
   iterN (fun (s1:Int × Int × (List Int) × Int × Bool × (List D.Gate) × (List (D.Gate × Int)))=>
  if (decide (s1.2.1 < (len a))) then
   (get? a s1.2.1).bind fun x2=>
   (get? b s1.2.1).bind fun x3=>
   (Z5 (D.builder.mk (D.Circuit.mk s1.2.2.2.1 s1.2.2.2.2.2.1) s1.2.2.2.2.2.2 s1.2.2.2.2.1) x2 x3).bind fun x4=>
   (Z5 x4.2 x4.1 s1.1).bind fun x5=>
   (set? s1.2.2.1 s1.2.1 x5.1).bind fun x6=>
   (get? a s1.2.1).bind fun x7=>
   (get? b s1.2.1).bind fun x8=>
   (Zm x5.2 x7 x8).bind fun x9=>
   (Zm x9.2 x4.1 s1.1).bind fun x10=>
   (Z0 x10.2 x9.1 x10.1).bind fun x11=>
   some (.inl (x11.1,(w64 (s1.2.1 + 1)),x6,x11.2.c.Inputs,x11.2.full,x11.2.c.Gates,x11.2.line))
  else
   some (.inr (s1.1,s1.2.2.1,s1.2.2.2.1,s1.2.2.2.2.1,s1.2.2.2.2.2.1,s1.2.2.2.2.2.2))) n
    (let r:=((a.zip b).take k).foldl addStep ([],c,(mc,mf)); (r.2.1,(k:Int),r.1 ++ List.replicate d 0,r.2.2.1.Inputs,r.2.2.2,r.2.2.1.Gates,ln)) =
    some (let r:=addP (mc,mf) a b c; (r.2.1,r.1,r.2.2.1.Inputs,r.2.2.2,r.2.2.1.Gates,ln')) ∧ (let r:=addP (mc,mf) a b c; RelB ⟨r.2.2.1,ln',r.2.2.2⟩ r.2.2):=by
  intro d
  induction d with
  | zero=>
   intro k ln hk hr n hn
   obtain ⟨n,rfl⟩ : ∃ j,n = j + 1:=⟨n - 1,by omega⟩
   obtain rfl:k = a.length:=by omega
   refine ⟨ln,?_,?_⟩
   ·unfold iterN addP
    rw [Zn8 (by omega)]
    simp only
    rw [ZmI (by rw [Za]; simp)]
    simp
   ·unfold addP
    rw [Zn8 (by omega)] at hr
    exact hr
  | succ d ih=>
   intro k ln hk hr n hn
   obtain ⟨n,rfl⟩ : ∃ j,n = j + 1:=⟨n - 1,by omega⟩
   have hka:k < a.length:=by omega
   have hk':k < (a.zip b).length:=by omega
   have hkb:k < b.length:=by omega
   have h:=ZdU (s:=(mc,mf)) hs ha hb hc k (by omega)
   have ih1:=ih (k + 1)
   rw [Zni hk',ZnS,List.getElem_zip] at ih1
   generalize ((a.zip b).take k).foldl addStep ([],c,(mc,mf)) = t at h hr ih1 ⊢
   have a1:=litN_mono (ha _ (Zns hka)) h.grow.lines
   have a2:=litN_mono (hb _ (Zns hkb)) h.grow.lines
   have gx:=XX h.circ a1 a2
   have go:=XX gx.circ gx.lit (litN_mono h.lit gx.grow.lines)
   have e1:=gx.grow.trans go.grow
   have gy:=Y5 go.circ (litN_mono a1 e1.lines) (litN_mono a2 e1.lines)
   have e2:=go.grow.trans gy.grow
   have e3:=gx.grow.trans e2
   have gz:=Y5 gy.circ (litN_mono gx.lit e2.lines) (litN_mono h.lit e3.lines)
   obtain ⟨m1,sx,r1⟩:=Zdv h.circ a1 a2 _ hr
   obtain ⟨m2,so,r2⟩:=Zdv gx.circ gx.lit (litN_mono h.lit gx.grow.lines) _ r1
   obtain ⟨m3,sy,r3⟩:=ZaD r2 go.circ (litN_mono a1 e1.lines) (litN_mono a2 e1.lines)
   obtain ⟨m4,sz,r4⟩:=ZaD r3 gy.circ (litN_mono gx.lit e2.lines) (litN_mono h.lit e3.lines)
   obtain ⟨m5,sw,r5⟩:=Zeo gz.circ (litN_mono gy.lit gz.grow.lines) gz.lit _ r4
   simp only at sx so sw
   obtain ⟨c5,l5,f5⟩:=m5
   obtain ⟨hc5,hf5,hl5⟩:=r5
   simp only at hc5 hf5 hl5
   have hnext:=ih1 l5 (by omega) (by simp only [Zow,ZoW]; exact ⟨rfl,rfl,hl5⟩) n (by omega)
   obtain ⟨ln',hi,hrr⟩:=hnext
   refine ⟨ln',?_,hrr⟩
   rw [← hi]
   conv=>lhs; unfold iterN
   simp only
   rw [ZmJ (by rw [Za]; simp; omega),get?_nat,get?_nat,ZmE hka,ZmE hkb]
   simp only [ZmD]
   have sx':Z5 (D.builder.mk (D.Circuit.mk t.2.2.1.Inputs t.2.2.1.Gates) ln t.2.2.2) a[k] b[k] = _:=sx
   rw [sx']
   simp only [ZmD]
   rw [so]
   simp only [ZmD]
   have hset:∀ q,set? (t.1 ++ List.replicate (d + 1) 0) (k:Int) q = some ((t.1 ++ [q]) ++ List.replicate d 0):=fun q=>by
    have e:=set_fill (l:=t.1) (n:=d) (x:=q)
    rw [h.len] at e
    rw [set?_nat (by simp [h.len]),e]
   rw [hset]
   simp only [ZmD]
   rw [sy]
   simp only [ZmD]
   rw [sz]
   simp only [ZmD]
   rw [sw]
   simp only [ZmD]
   rw [Zb (by omega) (by omega),hc5,hf5]
   rfl
 obtain ⟨ln',hi,hr⟩:=main a.length 0 ml (by omega) (by simp only [List.take_zero,ZoW]; exact ⟨rfl,rfl,hl1⟩) fuel (lt_fuel hl)
 refine ⟨_,?_,hr⟩
 unfold ZR
 rw [mk?_len (by unfold room; omega)]
 simp only [ZmD]
 simp only [List.take_zero,ZoW,Zox] at hi
 have hi':=congrArg (fun r=>Option.bind r fun (rl1:Int × (List Int) × Int × Bool × (List D.Gate) × (List (D.Gate × Int)))=>some (rl1.2.1,rl1.1,(D.builder.mk (D.Circuit.mk rl1.2.2.1 rl1.2.2.2.2.1) rl1.2.2.2.2.2 rl1.2.2.2.1))) hi
 exact hi'
end Go.Proofs.YtgpcokpcbjloiaaGreat.Cc
end
section
namespace Go.Proofs.YtgpcokpcbjloiaaGreat.Cc
open Go.GL
variable {fuel:Nat} [FU fuel]
end Go.Proofs.YtgpcokpcbjloiaaGreat.Cc
end
section
namespace Go.Proofs.YtgpcokpcbjloiaaGreat.Cc
open Go.GL
variable {fuel:Nat} [FU fuel]
abbrev LS:=List Int × BS
section
variable {α:Type}
def seqP (f:BS → α → Int × BS) (s:BS) (l:List α):LS:=l.foldl (fun t x=>(t.1 ++ [(f t.2 x).1],(f t.2 x).2)) ([],s)
structure GoodL (s:BS) (n:Nat) (t:LS):Prop where
 circ:CircP t.2.1
 grow:Grow s.1 t.2.1
 len:t.1.length = n
 lits:∀ x ∈ t.1,litN (lines t.2.1) x = true
def FOk (f:BS → α → Int × BS) (s:BS) (l:List α):Prop:=∀ s' x,CircP s'.1 → Grow s.1 s'.1 → x ∈ l → Good s' (f s' x)
theorem Zc9 {f:BS → α → Int × BS} {s:BS} {l:List α} (hs:CircP s.1) (hf:FOk f s l):∀ k,k ≤ l.length → GoodL s k (seqP f s (l.take k)):=
 Zfc _ (GoodL s) l _ ⟨hs,Grow.refl _,rfl,fun _ h=>by cases h⟩ fun k x t hx ht=>by
  have g:=hf t.2 x ht.circ ht.grow (ZmM hx)
  refine ⟨g.circ,ht.grow.trans g.grow,by simp [ht.len],fun y hy=>?_⟩
  simp only [Znb,Znm] at hy
  rcases hy with hy | rfl
  ·exact litN_mono (ht.lits y hy) g.grow.lines
  ·exact g.lit
theorem seq_good {f:BS → α → Int × BS} {s:BS} {l:List α} (hs:CircP s.1) (hf:FOk f s l):GoodL s l.length (seqP f s l):=by
 have:=Zc9 hs hf l.length (ZmY _)
 rw [Zn0] at this
 exact this
theorem Zcg {f:BS → α → Int × BS} {s:BS} {l:List α} {k:Nat} {x:α} (hx:l[k]? = some x):seqP f s (l.take (k + 1)) = ((seqP f s (l.take k)).1 ++ [(f (seqP f s (l.take k)).2 x).1],(f (seqP f s (l.take k)).2 x).2):=by
 obtain ⟨hk,rfl⟩:=ZmG.1 hx
 unfold seqP
 rw [Zni hk,ZnS]
 rfl
theorem spec_seq {f:BS → α → Int × BS} {l:List α} {s:BS} {B:Int × List Int × Int × Bool × List D.Gate → Option ((Int × List Int × Int × Bool × List D.Gate) ⊕ (List Int × Int × Bool × List D.Gate))} (hs:CircP s.1) (hl:l.length ≤ 1000) (hf:FOk f s l)
  (hB:∀ (j:Nat) (out:List Int) (s':BS) (x:α),l[j]? = some x → CircP s'.1 → Grow s.1 s'.1 → out.length = j → B ((j:Int),out,s'.1.Inputs,s'.2,s'.1.Gates) = some (.inl (((j + 1:Nat):Int),out ++ [(f s' x).1],(f s' x).2.1.Inputs,(f s' x).2.2,(f s' x).2.1.Gates)))
  (hE:∀ (out:List Int) (s':BS),B (((l.length:Nat):Int),out,s'.1.Inputs,s'.2,s'.1.Gates) = some (.inr (out,s'.1.Inputs,s'.2,s'.1.Gates))) :
  iterN B fuel (0,[],s.1.Inputs,s.2,s.1.Gates) = some ((seqP f s l).1,(seqP f s l).2.1.Inputs,(seqP f s l).2.2,(seqP f s l).2.1.Gates):=by
 refine Ya (I:=fun k t=>t = ((k:Int),(seqP f s (l.take k)).1,(seqP f s (l.take k)).2.1.Inputs,(seqP f s (l.take k)).2.2,(seqP f s (l.take k)).2.1.Gates)) (m:=l.length) (fun k t hk ht=>?_) (fun t ht=>?_) l.length 0 _ (by omega) rfl fuel (lt_fuel (by omega))
 ·subst ht
  have g:=Zc9 hs hf k (by omega)
  refine ⟨_,hB k _ _ l[k] (ZmE hk) g.circ g.grow g.len,?_⟩
  rw [Zcg (ZmE hk)]
 ·subst ht
  rw [hE,Zn0]
theorem ZbE {σt ρt:Type} {B:σt → Option (σt ⊕ ρt)} {I:Nat → σt → Prop} {m:Nat} {R:ρt → Prop} (hs:∀ k s,k < m → I k s → ∃ s',B s = some (.inl s') ∧ I (k + 1) s') (hf:∀ s,I m s → ∃ r,B s = some (.inr r) ∧ R r) :
  ∀ (d k:Nat) (s:σt),k + d = m → I k s → ∀ n,d < n → ∃ r,iterN B n s = some r ∧ R r
 | 0,k,s,hk,hi,n,hn=>by
  obtain ⟨n,rfl⟩ : ∃ j,n = j + 1:=⟨n - 1,by omega⟩
  obtain rfl:k = m:=by omega
  obtain ⟨r,h1,h2⟩:=hf s hi
  exact ⟨r,by unfold iterN; rw [h1],h2⟩
 | d + 1,k,s,hk,hi,n,hn=>by
  obtain ⟨n,rfl⟩ : ∃ j,n = j + 1:=⟨n - 1,by omega⟩
  obtain ⟨s',h1,h2⟩:=hs k s (by omega) hi
  obtain ⟨r,h3,h4⟩:=ZbE hs hf d (k + 1) s' (by omega) h2 n (by omega)
  exact ⟨r,by unfold iterN; rw [h1]; exact h3,h4⟩
theorem Zce {σt ρt γ:Type} {B:σt → Option (σt ⊕ ρt)} {I:Nat → σt → Prop} {m:Nat} {R:ρt → Prop} {f:ρt → Option γ} {G:γ → Prop} (hs:∀ k s,k < m → I k s → ∃ s',B s = some (.inl s') ∧ I (k + 1) s') (hf:∀ s,I m s → ∃ r,B s = some (.inr r) ∧ R r)
  (d k:Nat) (s:σt) (hk:k + d = m) (hi:I k s) (n:Nat) (hn:d < n) (hfin:∀ r,R r → ∃ y,f r = some y ∧ G y):∃ y,(iterN B n s).bind f = some y ∧ G y:=by
 obtain ⟨r,h1,h2⟩:=ZbE hs hf d k s hk hi n hn
 rw [h1]
 exact hfin r h2
theorem Zi7 {α β:Type} {X:Option (α × β)} {v:α} {R:β → Prop} (h:∃ y,X = some y ∧ ∃ m,y = (v,m) ∧ R m):∃ m,X = some (v,m) ∧ R m:=by
 obtain ⟨y,h1,m,rfl,h2⟩:=h
 exact ⟨m,h1,h2⟩
theorem ZiN {l L0:List Int} {k:Nat} {x:Int} (hl:l.length = k) (hk:k < L0.length):(l ++ L0.drop k).set k x = (l ++ [x]) ++ L0.drop (k + 1):=by
 subst hl
 rw [ZnE _ _ (ZmY _),Zof,Zn6 hk,Zoi,Znf,Zny]
theorem impl_seq {f:BS → α → Int × BS} {l:List α} {s:BS} {B:Int × List Int × Int × Bool × List D.Gate × List (D.Gate × Int) → Option ((Int × List Int × Int × Bool × List D.Gate × List (D.Gate × Int)) ⊕ (List Int × Int × Bool × List D.Gate × List (D.Gate × Int)))} (hs:CircP s.1) (hl:l.length ≤ 1000) (hf:FOk f s l) {L0:List Int} (hL:L0.length = l.length)
  (hB:∀ (j:Nat) (L:List Int) (m:D.builder) (s':BS) (x:α),l[j]? = some x → CircP s'.1 → Grow s.1 s'.1 → RelB m s' → L.length = l.length → (∀ i,j ≤ i → L[i]? = L0[i]?) → ∃ m',B ((j:Int),L,m.c.Inputs,m.full,m.c.Gates,m.line) = some (.inl (((j + 1:Nat):Int),L.set j (f s' x).1,m'.c.Inputs,m'.full,m'.c.Gates,m'.line)) ∧ RelB m' (f s' x).2)
  (hE:∀ (L:List Int) (m:D.builder),B (((l.length:Nat):Int),L,m.c.Inputs,m.full,m.c.Gates,m.line) = some (.inr (L,m.c.Inputs,m.full,m.c.Gates,m.line))) {m:D.builder} (hm:RelB m s) :
  ∃ m',iterN B fuel (0,L0,m.c.Inputs,m.full,m.c.Gates,m.line) = some ((seqP f s l).1,m'.c.Inputs,m'.full,m'.c.Gates,m'.line) ∧ RelB m' (seqP f s l).2:=by
 have key:∃ r,iterN B fuel (0,L0,m.c.Inputs,m.full,m.c.Gates,m.line) = some r ∧ ∃ m':D.builder,r = ((seqP f s l).1,m'.c.Inputs,m'.full,m'.c.Gates,m'.line) ∧ RelB m' (seqP f s l).2:=by
  refine ZbE (B:=B) (I:=fun k t=>∃ m':D.builder,t = ((k:Int),(seqP f s (l.take k)).1 ++ L0.drop k,m'.c.Inputs,m'.full,m'.c.Gates,m'.line) ∧ RelB m' (seqP f s (l.take k)).2) (m:=l.length) (fun k t hk ht=>?_) (fun t ht=>?_) l.length 0 _ (by omega) ⟨m,rfl,hm⟩ fuel (lt_fuel (by omega))
  ·obtain ⟨m1, rfl, hr⟩ := ht
   have g:=Zc9 hs hf k (by omega)
   obtain ⟨m2,h3,h4⟩:=hB k ((seqP f s (l.take k)).1 ++ L0.drop k) m1 (seqP f s (l.take k)).2 l[k] (ZmE hk) g.circ g.grow hr (by rw [ZmO,g.len,Znh]; omega) (fun i hi=>by rw [ZmS (by rw [g.len]; omega),g.len,ZnD]; congr 1; omega)
   refine ⟨_,h3,m2,?_,?_⟩
   ·rw [Zcg (ZmE hk),ZiN g.len (by omega)]
   ·rw [Zcg (ZmE hk)]
    exact h4
  ·obtain ⟨m1, rfl, hr⟩ := ht
   refine ⟨_,hE _ m1,m1,?_,?_⟩
   ·rw [Zn0,ZnW (by omega),Znu]
   ·rw [Zn0] at hr; exact hr
 obtain ⟨r,h1,m',rfl,h2⟩:=key
 exact ⟨m',h1,h2⟩
end
def negs (l:List Int):List Int:=l.map fun x=>-x
theorem negs_len (l:List Int):(negs l).length = l.length:=by simp [negs]
theorem negs_lits {n:Int} {l:List Int} (h:∀ x ∈ l,litN n x = true):∀ x ∈ negs l,litN n x = true:=by
 intro x hx
 obtain ⟨y,hy,rfl⟩:=ZnG.1 hx
 rw [ZQ]; exact h y hy
theorem spec_not {n:Int} {l:List Int} (hn:n ≤ 391) (hl:l.length ≤ 1000) (h:∀ x ∈ l,litN n x = true):Xf fuel l = some (negs l):=by
 unfold Xf
 rw [Ya (I:=fun k t=>t = ((k:Int),negs (l.take k))) (m:=l.length) (r:=negs l) (fun k t hk ht=>?_) (fun t ht=>?_) l.length 0 _ (by omega) (by simp [negs]) fuel (lt_fuel (by omega))]
 ·rfl
 all_goals subst ht
 ·refine ⟨_, ?_, rfl⟩
  simp only
  rw [ZmJ (by rw [Za]; simp; omega),get?_nat,ZmE hk]
  simp only [ZmD]
  rw [Yc (h _ (Zns hk)) hn]
  have:app? (negs (l.take k)) [-l[k]] = some (negs (l.take (k + 1))):=by
   unfold app?
   rw [ZmJ (by simp [negs]; unfold room; omega),Zni hk]
   unfold negs
   rw [ZnN]
   rfl
  rw [this]
  simp only [ZmD]
  rw [Zb (by omega) (by omega)]
  rfl
 ·simp only
  rw [ZmI (by rw [Za]; simp),Zn0]
theorem impl_opp {n:Int} {l:List Int} (hn:n ≤ 391) (hl:l.length ≤ 1000) (h:∀ x ∈ l,litN n x = true):Yy fuel l = some (negs l):=by
 unfold Yy
 rw [mk?_len (by unfold room; omega)]
 simp only [ZmD]
 rw [Ya (I:=fun k t=>t = ((k:Int),negs (l.take k) ++ List.replicate (l.length - k) 0)) (m:=l.length) (r:=negs l) (fun k t hk ht=>?_) (fun t ht=>?_) l.length 0 _ (by omega) (by simp [negs]) fuel (lt_fuel (by omega))]
 ·rfl
 all_goals subst ht
 ·refine ⟨_, ?_, rfl⟩
  simp only
  rw [ZmJ (by rw [Za]; simp; omega),get?_nat,ZmE hk]
  simp only [ZmD]
  have hln:(negs (l.take k)).length = k:=by rw [negs_len,ZmP]; omega
  rw [Yc (h _ (Zns hk)) hn,set?_nat (by simp [hln]; omega)]
  simp only [ZmD]
  have e:(negs (l.take k) ++ List.replicate (l.length - k) 0).set k (-l[k]) = negs (l.take (k + 1)) ++ List.replicate (l.length - (k + 1)) 0:=by
   have:=set_fill (l:=negs (l.take k)) (n:=l.length - (k + 1)) (x:=-l[k])
   rw [hln,show l.length - (k + 1) + 1 = l.length - k by omega] at this
   rw [this,Zni hk]
   unfold negs
   rw [ZnN]
   rfl
  rw [e,Zb (by omega) (by omega)]
  rfl
 ·simp only
  rw [ZmI (by rw [Za]; simp),Zn0]
  simp
theorem spec_fill {w:Nat} (hw:w ≤ 1000) (x:Int):ZX fuel (w:Int) x = some (List.replicate w x):=by
 unfold ZX
 rw [Ya (I:=fun k t=>t = ((k:Int),List.replicate k x)) (m:=w) (r:=List.replicate w x) (fun k t hk ht=>?_) (fun t ht=>?_) w 0 _ (by omega) (by simp) fuel (lt_fuel (by omega))]
 ·rfl
 all_goals subst ht
 ·refine ⟨_, ?_, rfl⟩
  simp only
  rw [ZmJ (by simp; omega)]
  have:app? (List.replicate k x) [x] = some (List.replicate (k + 1) x):=by
   unfold app?
   rw [ZmJ (by simp; unfold room; omega),Zpb]
  rw [this]
  simp only [ZmD]
  rw [Zb (by omega) (by omega)]
  rfl
 ·simp only
  rw [ZmI (by simp)]
theorem band01:(band 0 1 == 1) = false:=by decide
theorem Zfm {w:Nat} (hw:w ≤ 1000):Yl fuel (w:Int) 0 = some (List.replicate w (-1)):=by
 unfold Yl
 have hmk:mk? (w:Int) (0:Int) = some (List.replicate w 0):=by
  unfold mk?; rw [ZmJ ⟨by omega,by unfold room; omega⟩]; rfl
 rw [hmk]
 simp only [ZmD]
 rw [Ya (I:=fun k t=>t = ((k:Int),List.replicate k (-1) ++ List.replicate (w - k) 0)) (m:=w) (r:=List.replicate w (-1)) (fun k t hk ht=>?_) (fun t ht=>?_) w 0 _ (by omega) (by simp) fuel (lt_fuel (by omega))]
 ·rfl
 all_goals subst ht
 ·refine ⟨_, ?_, rfl⟩
  simp only
  rw [ZmJ (by rw [Za]; simp; omega),set?_nat (by simp; omega)]
  simp only [ZmD]
  have hw:IntKind.u64.wrap (k:Int) = k:=by unfold IntKind.wrap; simp [IntKind.bits,IntKind.signed]; omega
  have hsh:shr? 0 (k:Int) = some 0:=by
   unfold shr?; rw [ZmI (by omega)]; simp
  rw [hw,hsh]
  simp only [ZmD]
  rw [ZmI (by rw [band01]; simp)]
  have e:(List.replicate k (-1) ++ List.replicate (w - k) 0).set k (-1) = List.replicate (k + 1) (-1) ++ List.replicate (w - (k + 1)) 0:=by
   have:=set_fill (l:=List.replicate k (-1)) (n:=w - (k + 1)) (x:=-1)
   rw [Zn3,show w - (k + 1) + 1 = w - k by omega] at this
   rw [this,Zpb]
  rw [e,Zb (by omega) (by omega)]
  rfl
 ·simp only
  rw [ZmI (by rw [Za]; simp)]
  simp
theorem YS {c:D.Circuit} (h:CircP c):litN (lines c) (-1) = true:=litN_iff.2 ⟨by simp [iab],by have:=h.lines0; simpa [iab] using this⟩
theorem ZaX {c:D.Circuit} (h:CircP c):litN (lines c) 1 = true:=litN_iff.2 ⟨by simp [iab],by have:=h.lines0; simpa [iab] using this⟩
def partF (bk:Int):BS → Int → Int × BS:=fun s x=>andP s bk x
def mulStep (a b:List Int) (t:LS) (k:Nat):LS:=
 let p:=seqP (partF (b.getD k 0)) t.2 (a.take (a.length - k))
 let q:=addP p.2 (t.1.drop k) p.1 (-1)
 (t.1.take k ++ q.1,q.2.2)
def mulK (s:BS) (a b:List Int) (k:Nat):LS:=(List.range k).foldl (mulStep a b) (List.replicate a.length (-1),s)
theorem mulK_succ (s:BS) (a b:List Int) (k:Nat):mulK s a b (k + 1) = mulStep a b (mulK s a b k) k:=by
 unfold mulK; rw [Zo8,ZnS]; rfl
theorem ZfT {s:BS} {a b:List Int} (ha:∀ x ∈ a,litN (lines s.1) x = true) (hb:∀ x ∈ b,litN (lines s.1) x = true) {t:LS} (hg:Grow s.1 t.2.1) {k:Nat} (hk:k < b.length):FOk (partF (b.getD k 0)) t.2 (a.take (a.length - k)):=by
 intro s' x hc hgr hx
 have hbk:b.getD k 0 ∈ b:=by rw [ZmL,ZmE hk]; exact Zns hk
 have e:=hg.trans hgr
 exact Y5 hc (litN_mono (hb _ hbk) e.lines) (litN_mono (ha _ (Zou hx)) e.lines)
section
variable {s:BS} (hs:CircP s.1) {a b:List Int} (hab:a.length = b.length) (ha:∀ x ∈ a,litN (lines s.1) x = true) (hb:∀ x ∈ b,litN (lines s.1) x = true)
include hs hab ha hb
theorem ZdF (k:Nat) (hk:k ≤ a.length):GoodL s a.length (mulK s a b k):=by
 induction k with
 | zero => exact ⟨hs, Grow.refl _, by simp [mulK], fun x hx => by
   simp only [mulK,List.range_zero,ZoW] at hx
   rw [Zpn hx]; exact YS hs⟩
 | succ k ih=>
  have g:=ih (by omega)
  rw [mulK_succ]
  generalize mulK s a b k = t at g ⊢
  have gp:=seq_good g.circ (ZfT ha hb g.grow (k:=k) (by omega))
  have gpl:(seqP (partF (b.getD k 0)) t.2 (a.take (a.length - k))).1.length = a.length - k:=by rw [gp.len,ZmP]; omega
  have gq:=XP gp.circ (a:=t.1.drop k) (b:=(seqP (partF (b.getD k 0)) t.2 (a.take (a.length - k))).1) (c:=-1) (by rw [gpl,Znh,g.len]) (fun x hx=>litN_mono (g.lits x (Zoe hx)) gp.grow.lines) gp.lits (YS gp.circ)
  refine ⟨gq.circ,(g.grow.trans gp.grow).trans gq.grow,?_,fun x hx=>?_⟩
  ·simp only [mulStep,ZmO,ZmP,gq.len,Znh,g.len]; omega
  ·simp only [mulStep, Znb] at hx
   rcases hx with hx | hx
   ·exact litN_mono (g.lits x (Zou hx)) (gp.grow.trans gq.grow).lines
   ·exact gq.lits x hx
end
theorem getD_get {l:List Int} {k:Nat} (hk:k < l.length):l[k]? = some (l.getD k 0):=by
 rw [ZmL,ZmE hk]; rfl
theorem getD_mem {l:List Int} {k:Nat} (hk:k < l.length):l.getD k 0 ∈ l:=ZmM (getD_get hk)
theorem ZgH {l:List Int} {k:Nat} (hk:k ≤ l.length):cut? l (k:Int) (len l) = some (l.drop k):=by
 unfold cut?
 rw [Za,ZmJ ⟨by omega,by omega,by omega⟩]
 simp
theorem Zjb {l:List Int} {k:Nat} (hk:k ≤ l.length):cut? l 0 (k:Int) = some (l.take k):=by
 unfold cut?
 rw [ZmJ ⟨by omega,by omega,by omega⟩]
 simp
theorem Zek {l:List Int} (h:l.length ≤ 1000):app? ([]:List Int) l = some l:=by
 unfold app?; rw [ZmJ (by simp; unfold room; omega)]; rfl
theorem Zbl {l m:List Int} (h:l.length + m.length ≤ 100000):app? l m = some (l ++ m):=by
 unfold app?; rw [ZmJ (by unfold room; omega)]
theorem ZhC {l m:List Int} {k:Nat} (hk:k ≤ l.length) (hm:m.length = l.length - k):vcopy l (k:Int) (l.length - k) m = l.take k ++ m:=by
 unfold vcopy
 rw [Znz,Zn8 (l:=m) (by omega),ZnW (by omega),Znu]
section
variable {s:BS} (hs:CircP s.1) {a b:List Int} (hab:a.length = b.length) (hl:a.length ≤ 16) (ha:∀ x ∈ a,litN (lines s.1) x = true) (hb:∀ x ∈ b,litN (lines s.1) x = true)
include hs hab hl ha hb
theorem Zlr:YU fuel (net s) a b = some ((mulK s a b a.length).1,net (mulK s a b a.length).2):=by
 unfold YU
 rw [Za,spec_fill (by omega)]
 simp only [ZmD]
 rw [Ya (I:=fun k t=>t = ((k:Int),(mulK s a b k).1,(mulK s a b k).2.1.Inputs,(mulK s a b k).2.2,(mulK s a b k).2.1.Gates)) (m:=a.length) (r:=((mulK s a b a.length).1,(mulK s a b a.length).2.1.Inputs,(mulK s a b a.length).2.2,(mulK s a b a.length).2.1.Gates)) (fun k t hk ht=>?_) (fun t ht=>?_) a.length 0 _ (by omega) (by simp [mulK]) fuel (lt_fuel (by omega))]
 ·rfl
 all_goals subst ht
 ·have g := ZdF hs hab ha hb k (by omega)
  have hok:=ZfT ha hb g.grow (k:=k) (by omega)
  have gp:=seq_good g.circ hok
  refine ⟨_,?_,rfl⟩
  rw [mulK_succ]
  generalize mulK s a b k = t at g gp hok ⊢
  have gpl:(seqP (partF (b.getD k 0)) t.2 (a.take (a.length - k))).1.length = a.length - k:=by rw [gp.len,ZmP]; omega
  have gq:=XP gp.circ (a:=t.1.drop k) (b:=(seqP (partF (b.getD k 0)) t.2 (a.take (a.length - k))).1) (c:=-1) (by rw [gpl,Znh,g.len]) (fun x hx=>litN_mono (g.lits x (Zoe hx)) gp.grow.lines) gp.lits (YS gp.circ)
  have sq:=Zcl (fuel:=fuel) (s:=(seqP (partF (b.getD k 0)) t.2 (a.take (a.length - k))).2) gp.circ (a:=t.1.drop k) (b:=(seqP (partF (b.getD k 0)) t.2 (a.take (a.length - k))).1) (c:=-1) (by rw [Znh,g.len]; omega) (by rw [gpl,Znh,g.len]) (fun x hx=>litN_mono (g.lits x (Zoe hx)) gp.grow.lines) gp.lits (YS gp.circ)
  simp only
  rw [ZmJ (by simp; omega),Zb (x:=(a.length:Int) - (k:Int)) (by omega) (by omega)]
  rw [spec_seq (f:=partF (b.getD k 0)) (l:=a.take (a.length - k)) (s:=t.2) g.circ (by rw [ZmP]; omega) hok (fun j out s' x hx hc hgr hout=>?_) (fun out s'=>?_)]
  ·simp only [ZmD]
   have hcr:=ZgH (l:=t.1) (k:=k) (by rw [g.len]; omega)
   rw [hcr]
   simp only [ZmD]
   have sq':ZH fuel (D.l04Net.mk (D.Circuit.mk (seqP (partF (b.getD k 0)) t.2 (a.take (a.length - k))).2.1.Inputs (seqP (partF (b.getD k 0)) t.2 (a.take (a.length - k))).2.1.Gates) (seqP (partF (b.getD k 0)) t.2 (a.take (a.length - k))).2.2) (t.1.drop k) (seqP (partF (b.getD k 0)) t.2 (a.take (a.length - k))).1 (-1) = _:=sq
   rw [sq']
   simp only [ZmD]
   rw [Zjb (by rw [g.len]; omega)]
   simp only [ZmD]
   have l1:(t.1.take k).length ≤ 1000:=by rw [ZmP,g.len]; omega
   rw [Zek l1]
   simp only [ZmD]
   rw [Zbl (by rw [ZmP,gq.len,Znh,g.len]; omega)]
   simp only [ZmD]
   rw [Zb (by omega) (by omega)]
   rfl
  ·have hj:j < a.length - k ∧ j < a.length:=by
    have:=(ZmG.1 hx).1
    rw [ZmP] at this; omega
   have hax:a[j]? = some x:=by rw [Znr] at hx; split at hx; exact hx; cases hx
   simp only
   rw [ZmJ (by simp; omega),get?_nat,get?_nat,getD_get (l:=b) (by omega),hax]
   simp only [ZmD]
   have e:=hgr
   have hga:=g.grow.trans hgr
   have sa:Zk fuel (D.l04Net.mk (D.Circuit.mk s'.1.Inputs s'.1.Gates) s'.2) (b.getD k 0) x = _:=ZaC (fuel:=fuel) hc (litN_mono (hb _ (getD_mem (by omega))) hga.lines) (litN_mono (ha _ (ZmM hax)) hga.lines)
   rw [sa]
   simp only [ZmD]
   rw [Zbl (by simp; omega)]
   simp only [ZmD]
   rw [Zb (by omega) (by omega)]
   rfl
  ·simp only
   rw [ZmI (by simp only [ZmP,ZmN]; omega)]
 ·simp only
  rw [ZmI (by simp)]
theorem Zka {m:D.builder} (hm:RelB m s):∃ m',Y4 fuel m a b = some ((mulK s a b a.length).1,m') ∧ RelB m' (mulK s a b a.length).2:=by
 unfold Y4
 rw [Za,Zfm (by omega)]
 simp only [ZmD]
 refine Zi7 ?_
 refine Zce (I:=fun k t=>∃ m':D.builder,t = ((k:Int),(mulK s a b k).1,m'.c.Inputs,m'.full,m'.c.Gates,m'.line) ∧ RelB m' (mulK s a b k).2) (R:=fun r=>∃ m':D.builder,r = ((mulK s a b a.length).1,m'.c.Inputs,m'.full,m'.c.Gates,m'.line) ∧ RelB m' (mulK s a b a.length).2) (m:=a.length) (fun k t hk ht=>?_) (fun t ht=>?_) a.length 0 _ (by omega) ⟨m,rfl,hm⟩ fuel (lt_fuel (by omega)) (fun r hr=>?_)
 ·obtain ⟨m1, rfl, hr⟩ := ht
  have g:=ZdF hs hab ha hb k (by omega)
  have hok:=ZfT ha hb g.grow (k:=k) (by omega)
  have gp:=seq_good g.circ hok
  rw [mulK_succ]
  generalize mulK s a b k = t at g gp hok hr ⊢
  have gpl:(seqP (partF (b.getD k 0)) t.2 (a.take (a.length - k))).1.length = a.length - k:=by rw [gp.len,ZmP]; omega
  have gq:=XP gp.circ (a:=t.1.drop k) (b:=(seqP (partF (b.getD k 0)) t.2 (a.take (a.length - k))).1) (c:=-1) (by rw [gpl,Znh,g.len]) (fun x hx=>litN_mono (g.lits x (Zoe hx)) gp.grow.lines) gp.lits (YS gp.circ)
  have hmk:mk? (w64 ((a.length:Int) - (k:Int))) (0:Int) = some (List.replicate (a.length - k) 0):=by
   rw [Zb (by omega) (by omega)]
   unfold mk?
   rw [ZmJ ⟨by omega,by unfold room; omega⟩]
   congr 2; omega
  obtain ⟨m2,h2,r2⟩:=impl_seq (fuel:=fuel) (f:=partF (b.getD k 0)) (l:=a.take (a.length - k)) (s:=t.2) (L0:=List.replicate (a.length - k) 0) (B:=fun (s2:Int × (List Int) × Int × Bool × (List D.Gate) × (List (D.Gate × Int)))=>
   if (decide (s2.1 < (len (List.replicate (a.length - k) (0:Int))))) then
    (get? b (k:Int)).bind fun x3=>
    (get? a s2.1).bind fun x4=>
    (Zm (D.builder.mk (D.Circuit.mk s2.2.2.1 s2.2.2.2.2.1) s2.2.2.2.2.2 s2.2.2.2.1) x3 x4).bind fun x5=>
    (set? s2.2.1 s2.1 x5.1).bind fun x6=>
    some (.inl ((w64 (s2.1 + 1)),x6,x5.2.c.Inputs,x5.2.full,x5.2.c.Gates,x5.2.line))
   else
    some (.inr (s2.2.1,s2.2.2.1,s2.2.2.2.1,s2.2.2.2.2.1,s2.2.2.2.2.2))) g.circ (by rw [ZmP]; omega) hok (by simp) (fun j L mm s' x hx hc hgr hrr hL hpre=>by
    have hj:j < a.length - k ∧ j < a.length:=by
     have:=(ZmG.1 hx).1
     rw [ZmP] at this; omega
    have hax:a[j]? = some x:=by rw [Znr] at hx; split at hx; exact hx; cases hx
    have hga:=g.grow.trans hgr
    obtain ⟨m3,e3,r3⟩:=ZaD hrr hc (litN_mono (hb _ (getD_mem (k:=k) (by omega))) hga.lines) (litN_mono (ha _ (ZmM hax)) hga.lines)
    refine ⟨m3,?_,r3⟩
    simp only
    rw [ZmJ (by rw [Za]; simp; omega),get?_nat,get?_nat,getD_get (l:=b) (by omega),hax]
    simp only [ZmD]
    have e3':Zm (D.builder.mk (D.Circuit.mk mm.c.Inputs mm.c.Gates) mm.line mm.full) (b.getD k 0) x = _:=e3
    rw [e3']
    simp only [ZmD]
    rw [set?_nat (by rw [hL,ZmP]; omega)]
    simp only [ZmD]
    rw [Zb (by omega) (by omega)]
    rfl) (fun L mm=>by
    simp only
    rw [ZmI (by rw [Za]; simp)]) hr
  obtain ⟨m3,h3,r3⟩:=Zcw (fuel:=fuel) (s:=(seqP (partF (b.getD k 0)) t.2 (a.take (a.length - k))).2) gp.circ r2 (a:=t.1.drop k) (b:=(seqP (partF (b.getD k 0)) t.2 (a.take (a.length - k))).1) (c:=-1) (by rw [Znh,g.len]; omega) (by rw [gpl,Znh,g.len]) (fun x hx=>litN_mono (g.lits x (Zoe hx)) gp.grow.lines) gp.lits (YS gp.circ)
  refine ⟨_,?_,m3,rfl,r3⟩
  simp only
  rw [ZmJ (by rw [Za]; simp; omega),hmk]
  simp only [ZmD]
  rw [h2]
  simp only [ZmD]
  have hcr:=ZgH (l:=t.1) (k:=k) (by rw [g.len]; omega)
  rw [hcr]
  simp only [ZmD]
  have h3':ZR fuel (D.builder.mk (D.Circuit.mk m2.c.Inputs m2.c.Gates) m2.line m2.full) (t.1.drop k) (seqP (partF (b.getD k 0)) t.2 (a.take (a.length - k))).1 (-1) = _:=h3
  rw [h3']
  simp only [ZmD]
  rw [Znh,ZhC (by rw [g.len]; omega) (by rw [gq.len,Znh]),Zb (by omega) (by omega)]
  rfl
 ·obtain ⟨m1, rfl, hr⟩ := ht
  refine ⟨_,?_,m1,rfl,hr⟩
  simp only
  rw [ZmI (by rw [Za]; simp; omega)]
 ·obtain ⟨m', rfl, h2⟩ := hr
  exact ⟨_,rfl,m',rfl,h2⟩
end
section
variable {α σt ρt:Type}
theorem ZdR {f:BS → α → Int × BS} {l:List α} {s:BS} {B:σt → Option (σt ⊕ ρt)} (enc:Nat → List Int → D.builder → σt) (dec:List Int → D.builder → ρt) (hs:CircP s.1) (hl:l.length ≤ 1000) (hf:FOk f s l) {L0:List Int} (hL:L0.length = l.length)
  (hB:∀ (j:Nat) (L:List Int) (m:D.builder) (s':BS) (x:α),l[j]? = some x → CircP s'.1 → Grow s.1 s'.1 → RelB m s' → L.length = l.length → (∀ i,j ≤ i → L[i]? = L0[i]?) → ∃ m',B (enc j L m) = some (.inl (enc (j + 1) (L.set j (f s' x).1) m')) ∧ RelB m' (f s' x).2)
  (hE:∀ (L:List Int) (m:D.builder),B (enc l.length L m) = some (.inr (dec L m))) {m:D.builder} (hm:RelB m s) :
  ∃ m',iterN B fuel (enc 0 L0 m) = some (dec (seqP f s l).1 m') ∧ RelB m' (seqP f s l).2:=by
 have key:∃ r,iterN B fuel (enc 0 L0 m) = some r ∧ ∃ m':D.builder,r = dec (seqP f s l).1 m' ∧ RelB m' (seqP f s l).2:=by
  refine ZbE (B:=B) (I:=fun k t=>∃ m':D.builder,t = enc k ((seqP f s (l.take k)).1 ++ L0.drop k) m' ∧ RelB m' (seqP f s (l.take k)).2) (m:=l.length) (fun k t hk ht=>?_) (fun t ht=>?_) l.length 0 _ (by omega) ⟨m,rfl,hm⟩ fuel (lt_fuel (by omega))
  ·obtain ⟨m1, rfl, hr⟩ := ht
   have g:=Zc9 hs hf k (by omega)
   obtain ⟨m2,h3,h4⟩:=hB k ((seqP f s (l.take k)).1 ++ L0.drop k) m1 (seqP f s (l.take k)).2 l[k] (ZmE hk) g.circ g.grow hr (by rw [ZmO,g.len,Znh]; omega) (fun i hi=>by rw [ZmS (by rw [g.len]; omega),g.len,ZnD]; congr 1; omega)
   refine ⟨_,h3,m2,?_,?_⟩
   ·rw [Zcg (ZmE hk),ZiN g.len (by omega)]
   ·rw [Zcg (ZmE hk)]
    exact h4
  ·obtain ⟨m1, rfl, hr⟩ := ht
   refine ⟨_,hE _ m1,m1,?_,?_⟩
   ·rw [Zn0,ZnW (by omega),Znu]
   ·rw [Zn0] at hr; exact hr
 obtain ⟨r,h1,m',rfl,h2⟩:=key
 exact ⟨m',h1,h2⟩
def accP (f:BS → Int → α → Int × BS) (s:BS) (c:Int) (l:List α):Int × BS:=l.foldl (fun t x=>f t.2 t.1 x) (c,s)
def AOk (f:BS → Int → α → Int × BS) (s:BS) (l:List α):Prop:=∀ s' c x,CircP s'.1 → Grow s.1 s'.1 → litN (lines s'.1) c = true → x ∈ l → Good s' (f s' c x)
theorem ZdN {f:BS → Int → α → Int × BS} {s:BS} {c:Int} {l:List α} (hs:CircP s.1) (hc:litN (lines s.1) c = true) (hf:AOk f s l):∀ k,k ≤ l.length → Good s (accP f s c (l.take k)):=
 Zfc _ (fun _ t=>Good s t) l _ ⟨hs,Grow.refl _,hc⟩ fun k x t hx ht=>by
  have g:=hf t.2 t.1 x ht.circ ht.grow ht.lit (ZmM hx)
  exact ⟨g.circ,ht.grow.trans g.grow,g.lit⟩
theorem Zho {f:BS → Int → α → Int × BS} {s:BS} {c:Int} {l:List α} (hs:CircP s.1) (hc:litN (lines s.1) c = true) (hf:AOk f s l):Good s (accP f s c l):=by
 have:=ZdN hs hc hf l.length (ZmY _)
 rw [Zn0] at this
 exact this
theorem ZeD {f:BS → Int → α → Int × BS} {s:BS} {c:Int} {l:List α} {k:Nat} {x:α} (hx:l[k]? = some x):accP f s c (l.take (k + 1)) = f (accP f s c (l.take k)).2 (accP f s c (l.take k)).1 x:=by
 obtain ⟨hk,rfl⟩:=ZmG.1 hx
 unfold accP
 rw [Zni hk,ZnS]
 rfl
theorem ZfI {f:BS → Int → α → Int × BS} {l:List α} {s:BS} {c:Int} {B:σt → Option (σt ⊕ ρt)} (enc:Nat → Int → BS → σt) (dec:Int → BS → ρt) (hs:CircP s.1) (hc:litN (lines s.1) c = true) (hf:AOk f s l)
  (hB:∀ (j:Nat) (c':Int) (s':BS) (x:α),l[j]? = some x → CircP s'.1 → Grow s.1 s'.1 → litN (lines s'.1) c' = true → B (enc j c' s') = some (.inl (enc (j + 1) (f s' c' x).1 (f s' c' x).2)))
  (hE:∀ (c':Int) (s':BS),B (enc l.length c' s') = some (.inr (dec c' s'))) {n:Nat} (hn:l.length < n) :
  iterN B n (enc 0 c s) = some (dec (accP f s c l).1 (accP f s c l).2):=by
 refine Ya (I:=fun k t=>t = enc k (accP f s c (l.take k)).1 (accP f s c (l.take k)).2) (m:=l.length) (fun k t hk ht=>?_) (fun t ht=>?_) l.length 0 _ (by omega) rfl n hn
 ·subst ht
  have g:=ZdN hs hc hf k (by omega)
  refine ⟨_,hB k _ _ l[k] (ZmE hk) g.circ g.grow g.lit,?_⟩
  rw [ZeD (ZmE hk)]
 ·subst ht
  rw [hE,Zn0]
theorem Zfz {f:BS → Int → α → Int × BS} {l:List α} {s:BS} {c:Int} {B:σt → Option (σt ⊕ ρt)} (enc:Nat → Int → D.builder → σt) (dec:Int → D.builder → ρt) (hs:CircP s.1) (hc:litN (lines s.1) c = true) (hl:l.length ≤ 1000) (hf:AOk f s l)
  (hB:∀ (j:Nat) (c':Int) (m:D.builder) (s':BS) (x:α),l[j]? = some x → CircP s'.1 → Grow s.1 s'.1 → RelB m s' → litN (lines s'.1) c' = true → ∃ m',B (enc j c' m) = some (.inl (enc (j + 1) (f s' c' x).1 m')) ∧ RelB m' (f s' c' x).2)
  (hE:∀ (c':Int) (m:D.builder),B (enc l.length c' m) = some (.inr (dec c' m))) {m:D.builder} (hm:RelB m s) :
  ∃ m',iterN B fuel (enc 0 c m) = some (dec (accP f s c l).1 m') ∧ RelB m' (accP f s c l).2:=by
 have key:∃ r,iterN B fuel (enc 0 c m) = some r ∧ ∃ m':D.builder,r = dec (accP f s c l).1 m' ∧ RelB m' (accP f s c l).2:=by
  refine ZbE (B:=B) (I:=fun k t=>∃ m':D.builder,t = enc k (accP f s c (l.take k)).1 m' ∧ RelB m' (accP f s c (l.take k)).2) (m:=l.length) (fun k t hk ht=>?_) (fun t ht=>?_) l.length 0 _ (by omega) ⟨m,rfl,hm⟩ fuel (lt_fuel (by omega))
  ·obtain ⟨m1, rfl, hr⟩ := ht
   have g:=ZdN hs hc hf k (by omega)
   obtain ⟨m2,h3,h4⟩:=hB k _ m1 _ l[k] (ZmE hk) g.circ g.grow hr g.lit
   refine ⟨_,h3,m2,?_,?_⟩
   ·rw [ZeD (ZmE hk)]
   ·rw [ZeD (ZmE hk)]
    exact h4
  ·obtain ⟨m1, rfl, hr⟩ := ht
   rw [Zn0] at hr ⊢
   exact ⟨_,hE _ m1,m1,rfl,hr⟩
 obtain ⟨r,h1,m',rfl,h2⟩:=key
 exact ⟨m',h1,h2⟩
end
abbrev DS:=List Int × List Int × BS
def selF (c:Int):BS → Int × Int → Int × BS:=fun s p=>ifP s c p.1 p.2
def divStep (a less:List Int) (t:DS) (k:Nat):DS:=
 let d:=addP t.2.2 (a.getD k 0 :: t.1) less 1
 let q:=seqP (selF d.2.1) d.2.2 ((d.1.zip (a.getD k 0 :: t.1)).take a.length)
 (q.1,d.2.1 :: t.2.1,q.2)
def lessOf (b:List Int):List Int:=negs b ++ [1]
def divK (s:BS) (a b:List Int) (k:Nat):DS:=(List.range k).foldl (fun t i=>divStep a (lessOf b) t (a.length - 1 - i)) (List.replicate a.length (-1),[],s)
theorem divK_succ (s:BS) (a b:List Int) (k:Nat):divK s a b (k + 1) = divStep a (lessOf b) (divK s a b k) (a.length - 1 - k):=by
 unfold divK; rw [Zo8,ZnS]; rfl
structure GoodD (s:BS) (w k:Nat) (t:DS):Prop where
 circ:CircP t.2.2.1
 grow:Grow s.1 t.2.2.1
 len:t.1.length = w
 lits:∀ x ∈ t.1,litN (lines t.2.2.1) x = true
 clen:t.2.1.length = k
 clits:∀ x ∈ t.2.1,litN (lines t.2.2.1) x = true
structure DivOk (a less:List Int) (t:DS) (k:Nat):Prop where
 ga:GoodA t.2.2 (a.length + 1) (addP t.2.2 (a.getD k 0 :: t.1) less 1)
 tl:∀ x ∈ a.getD k 0 :: t.1,litN (lines t.2.2.1) x = true
 ll:∀ x ∈ less,litN (lines t.2.2.1) x = true
 l1:litN (lines t.2.2.1) 1 = true
 fok:FOk (selF (addP t.2.2 (a.getD k 0 :: t.1) less 1).2.1) (addP t.2.2 (a.getD k 0 :: t.1) less 1).2.2 (((addP t.2.2 (a.getD k 0 :: t.1) less 1).1.zip (a.getD k 0 :: t.1)).take a.length)
 zl:(((addP t.2.2 (a.getD k 0 :: t.1) less 1).1.zip (a.getD k 0 :: t.1)).take a.length).length = a.length
section
variable {s:BS} {a b:List Int} (hab:a.length = b.length) (ha:∀ x ∈ a,litN (lines s.1) x = true) (hb:∀ x ∈ b,litN (lines s.1) x = true)
include hab ha hb
theorem ZhZ {t:DS} {i:Nat} (g:GoodD s a.length i t) {k:Nat} (hk:k < a.length):DivOk a (lessOf b) t k:=by
 have htl:∀ x ∈ a.getD k 0 :: t.1,litN (lines t.2.2.1) x = true:=fun x hx=>by
  rcases Zno.1 hx with rfl | hx
  ·exact litN_mono (ha _ (getD_mem hk)) g.grow.lines
  ·exact g.lits x hx
 have hll:∀ x ∈ lessOf b,litN (lines t.2.2.1) x = true:=fun x hx=>by
  rcases Znb.1 hx with hx | hx
  ·exact litN_mono (negs_lits hb x hx) g.grow.lines
  ·rw [Znm.1 hx]; exact ZaX g.circ
 have hlen:(a.getD k 0 :: t.1).length = (lessOf b).length:=by simp [lessOf,negs_len,g.len,hab]
 have ga:=XP g.circ hlen htl hll (ZaX g.circ)
 have hw:(a.getD k 0 :: t.1).length = a.length + 1:=by simp [g.len]
 rw [hw] at ga
 refine ⟨ga,htl,hll,ZaX g.circ,fun s' p hc hgr hp=>?_,?_⟩
 ·have hp' := Zou hp
  have h1:=Zpz hp'
  exact if_good hc (litN_mono ga.lit hgr.lines) (litN_mono (ga.lits _ h1.1) hgr.lines) (litN_mono (htl _ h1.2) (ga.grow.trans hgr).lines)
 ·rw [ZmP,ZnQ,ga.len,hw]; omega
theorem Zc6 (hs:CircP s.1) (k:Nat) (hk:k ≤ a.length):GoodD s a.length k (divK s a b k):=by
 induction k with
 | zero => exact ⟨hs, Grow.refl _, by simp [divK], fun x hx => by
   simp only [divK,List.range_zero,ZoW] at hx
   rw [Zpn hx]; exact YS hs,rfl,fun x hx=>by cases hx⟩
 | succ k ih=>
  have g:=ih (by omega)
  rw [divK_succ]
  generalize divK s a b k = t at g ⊢
  have o:=ZhZ hab ha hb g (k:=a.length - 1 - k) (by omega)
  have gq:=seq_good o.ga.circ o.fok
  rw [o.zl] at gq
  refine ⟨gq.circ,(g.grow.trans o.ga.grow).trans gq.grow,gq.len,gq.lits,by simp [divStep,g.clen],fun x hx=>?_⟩
  simp only [divStep,Zno] at hx
  rcases hx with rfl | hx
  ·exact litN_mono o.ga.lit gq.grow.lines
  ·exact litN_mono (g.clits x hx) (o.ga.grow.trans gq.grow).lines
end
theorem Zhm {q0 cs:List Int} {w k:Nat} {c:Int} (hq:q0.length = w) (hk:k < w):(q0.take (w - k) ++ cs).set (w - 1 - k) c = q0.take (w - (k + 1)) ++ (c :: cs):=by
 have e:w - k = (w - 1 - k) + 1:=by omega
 have hl:(q0.take (w - 1 - k)).length = w - 1 - k:=by rw [ZmP]; omega
 have hlt:w - 1 - k < q0.length:=by omega
 rw [e,Zni hlt,Znf,ZnE _ _ (by omega),hl,Zof]
 rw [show w - (k + 1) = w - 1 - k by omega]
 rfl
section
variable {s:BS} (hs:CircP s.1) {a b:List Int} (hab:a.length = b.length) (hl:a.length ≤ 16) (ha:∀ x ∈ a,litN (lines s.1) x = true) (hb:∀ x ∈ b,litN (lines s.1) x = true)
include hs hab hl ha hb
theorem ZgZ:Y7 fuel (net s) a b = some ((divK s a b a.length).2.1,(divK s a b a.length).1,net (divK s a b a.length).2.2):=by
 unfold Y7
 rw [Za,spec_fill (by omega)]
 simp only [ZmD]
 rw [spec_not hs.lines1 (by omega) hb]
 simp only [ZmD]
 rw [Zbl (by rw [negs_len]; simp; omega)]
 simp only [ZmD]
 rw [Ya (I:=fun k t=>t = ((a.length:Int) - 1 - (k:Int),(List.replicate a.length (-1)).take (a.length - k) ++ (divK s a b k).2.1,(divK s a b k).1,(divK s a b k).2.2.1.Inputs,(divK s a b k).2.2.2,(divK s a b k).2.2.1.Gates)) (m:=a.length) (r:=((divK s a b a.length).2.1,(divK s a b a.length).1,(divK s a b a.length).2.2.1.Inputs,(divK s a b a.length).2.2.2,(divK s a b a.length).2.2.1.Gates)) (fun k t hk ht=>?_) (fun t ht=>?_) a.length 0 _ (by omega) (by rw [Zb (by omega) (by omega)]; simp [divK]) fuel (lt_fuel (by omega))]
 ·rfl
 all_goals subst ht
 ·have g := Zc6 hab ha hb hs k (by omega)
  have o:=ZhZ hab ha hb g (k:=a.length - 1 - k) (by omega)
  refine ⟨_,?_,rfl⟩
  rw [divK_succ]
  generalize divK s a b k = t at g o ⊢
  have hidx:(a.length:Int) - 1 - (k:Int) = ((a.length - 1 - k:Nat):Int):=by omega
  have hlen:(a.getD (a.length - 1 - k) 0 :: t.1).length = (lessOf b).length:=by simp [lessOf,negs_len,g.len,hab]
  have sd:=Zcl (fuel:=fuel) (s:=t.2.2) g.circ (a:=a.getD (a.length - 1 - k) 0 :: t.1) (b:=lessOf b) (c:=1) (by simp [g.len]; omega) hlen o.tl o.ll o.l1
  simp only
  rw [ZmJ (by simp; omega),hidx,get?_nat,getD_get (l:=a) (by omega)]
  simp only [ZmD]
  rw [Zbl (by simp [g.len]; omega)]
  simp only [ZmD]
  have sd':ZH fuel (D.l04Net.mk (D.Circuit.mk t.2.2.1.Inputs t.2.2.1.Gates) t.2.2.2) ([a.getD (a.length - 1 - k) 0] ++ t.1) (negs b ++ [1]) 1 = _:=sd
  rw [sd']
  simp only [ZmD]
  rw [set?_nat (by simp [g.clen]; omega),Zhm (by simp) hk]
  simp only [ZmD]
  rw [spec_seq (f:=selF (addP t.2.2 (a.getD (a.length - 1 - k) 0 :: t.1) (lessOf b) 1).2.1) (s:=(addP t.2.2 (a.getD (a.length - 1 - k) 0 :: t.1) (lessOf b) 1).2.2) (l:=((addP t.2.2 (a.getD (a.length - 1 - k) 0 :: t.1) (lessOf b) 1).1.zip (a.getD (a.length - 1 - k) 0 :: t.1)).take a.length) o.ga.circ (by rw [o.zl]; omega) o.fok (fun j out s' x hx hc hgr hout=>?_) (fun out s'=>?_)]
  ·simp only [ZmD]
   rw [Zb (by omega) (by omega)]
   simp only [Option.some.injEq,Sum.inl.injEq,Prod.mk.injEq]
   exact ⟨by omega,rfl,rfl,rfl,rfl,rfl⟩
  ·have hj:j < a.length:=by
    have:=(ZmG.1 hx).1
    rw [o.zl] at this; exact this
   have hx':((addP t.2.2 (a.getD (a.length - 1 - k) 0 :: t.1) (lessOf b) 1).1.zip (a.getD (a.length - 1 - k) 0 :: t.1))[j]? = some x:=by
    rw [Znr,ZmJ hj] at hx; exact hx
   have hz:=zip_mem hx'
   have h1:=o.ga.lits _ (ZmM hz.1)
   have h2:=o.tl _ (ZmM hz.2)
   simp only
   rw [ZmJ (by simp; omega),get?_nat,get?_nat,hz.1]
   simp only [ZmD]
   have hz2:([a.getD (a.length - 1 - k) 0] ++ t.1)[j]? = some x.2:=hz.2
   rw [hz2]
   simp only [ZmD]
   have si:Zl fuel (D.l04Net.mk (D.Circuit.mk s'.1.Inputs s'.1.Gates) s'.2) (addP t.2.2 (a.getD (a.length - 1 - k) 0 :: t.1) (lessOf b) 1).2.1 x.1 x.2 = _:=spec_if (fuel:=fuel) hc (litN_mono o.ga.lit hgr.lines) (litN_mono h1 hgr.lines) (litN_mono h2 (o.ga.grow.trans hgr).lines)
   rw [si]
   simp only [ZmD]
   rw [Zbl (by simp; omega)]
   simp only [ZmD]
   rw [Zb (by omega) (by omega)]
   rfl
  ·simp only
   rw [o.zl,ZmI (by simp)]
 ·simp only
  rw [ZmI (by simp; omega)]
  simp
theorem Zhu {m:D.builder} (hm:RelB m s):∃ m',Y0 fuel m a b = some ((divK s a b a.length).2.1,(divK s a b a.length).1,m') ∧ RelB m' (divK s a b a.length).2.2:=by
 unfold Y0
 rw [mk?_len (by unfold room; omega)]
 simp only [ZmD]
 rw [Za,Zfm (by omega)]
 simp only [ZmD]
 rw [impl_opp hs.lines1 (by omega) hb]
 simp only [ZmD]
 rw [Zbl (by rw [negs_len]; simp; omega)]
 simp only [ZmD]
 have hfin:∀ {X:Option (List Int × List Int × D.builder)} {u v:List Int} {s':BS},(∃ y,X = some y ∧ ∃ m',y = (u,v,m') ∧ RelB m' s') → ∃ m',X = some (u,v,m') ∧ RelB m' s':=fun ⟨y,h1,m',h2,h3⟩=>⟨m',by rw [h1,h2],h3⟩
 refine hfin ?_
 refine Zce (I:=fun k t=>∃ m':D.builder,t = ((a.length:Int) - 1 - (k:Int),(List.replicate a.length 0).take (a.length - k) ++ (divK s a b k).2.1,(divK s a b k).1,m'.c.Inputs,m'.full,m'.c.Gates,m'.line) ∧ RelB m' (divK s a b k).2.2) (R:=fun r=>∃ m':D.builder,r = ((divK s a b a.length).2.1,(divK s a b a.length).1,m'.c.Inputs,m'.full,m'.c.Gates,m'.line) ∧ RelB m' (divK s a b a.length).2.2) (m:=a.length) (fun k t hk ht=>?_) (fun t ht=>?_) a.length 0 _ (by omega) ⟨m,by rw [Zb (by omega) (by omega)]; simp [divK],hm⟩ fuel (lt_fuel (by omega)) (fun r hr=>?_)
 ·obtain ⟨m1, rfl, hr⟩ := ht
  have g:=Zc6 hab ha hb hs k (by omega)
  have o:=ZhZ hab ha hb g (k:=a.length - 1 - k) (by omega)
  rw [divK_succ]
  generalize divK s a b k = t at g o hr ⊢
  have hidx:(a.length:Int) - 1 - (k:Int) = ((a.length - 1 - k:Nat):Int):=by omega
  have hlen:(a.getD (a.length - 1 - k) 0 :: t.1).length = (lessOf b).length:=by simp [lessOf,negs_len,g.len,hab]
  obtain ⟨m2,h2,r2⟩:=Zcw (fuel:=fuel) (s:=t.2.2) g.circ hr (a:=a.getD (a.length - 1 - k) 0 :: t.1) (b:=lessOf b) (c:=1) (by simp [g.len]; omega) hlen o.tl o.ll o.l1
  obtain ⟨m3,h3,r3⟩:=ZdR (fuel:=fuel) (f:=selF (addP t.2.2 (a.getD (a.length - 1 - k) 0 :: t.1) (lessOf b) 1).2.1) (s:=(addP t.2.2 (a.getD (a.length - 1 - k) 0 :: t.1) (lessOf b) 1).2.2) (l:=((addP t.2.2 (a.getD (a.length - 1 - k) 0 :: t.1) (lessOf b) 1).1.zip (a.getD (a.length - 1 - k) 0 :: t.1)).take a.length) (L0:=t.1) (B:=fun (s2:Int × (List Int) × Int × Bool × (List D.Gate) × (List (D.Gate × Int)))=>
    if (decide (s2.1 < (len (List.replicate a.length (-1:Int))))) then
     (get? (addP t.2.2 (a.getD (a.length - 1 - k) 0 :: t.1) (lessOf b) 1).1 s2.1).bind fun x9=>
     (get? ([a.getD (a.length - 1 - k) 0] ++ t.1) s2.1).bind fun x10=>
     (Zc (D.builder.mk (D.Circuit.mk s2.2.2.1 s2.2.2.2.2.1) s2.2.2.2.2.2 s2.2.2.2.1) (addP t.2.2 (a.getD (a.length - 1 - k) 0 :: t.1) (lessOf b) 1).2.1 x9 x10).bind fun x11=>
     (set? s2.2.1 s2.1 x11.1).bind fun x12=>
     some (.inl ((w64 (s2.1 + 1)),x12,x11.2.c.Inputs,x11.2.full,x11.2.c.Gates,x11.2.line))
    else
     some (.inr (s2.2.1,s2.2.2.1,s2.2.2.2.1,s2.2.2.2.2.1,s2.2.2.2.2.2))) (fun j L m=>((j:Int),L,m.c.Inputs,m.full,m.c.Gates,m.line)) (fun L m=>(L,m.c.Inputs,m.full,m.c.Gates,m.line)) o.ga.circ (by rw [o.zl]; omega) o.fok (by rw [o.zl,g.len]) (fun j L mm s' x hx hc hgr hrr hL hpre=>by
    have hj:j < a.length:=by
     have:=(ZmG.1 hx).1
     rw [o.zl] at this; exact this
    have hx':((addP t.2.2 (a.getD (a.length - 1 - k) 0 :: t.1) (lessOf b) 1).1.zip (a.getD (a.length - 1 - k) 0 :: t.1))[j]? = some x:=by
     rw [Znr,ZmJ hj] at hx; exact hx
    have hz:=zip_mem hx'
    have h1:=o.ga.lits _ (ZmM hz.1)
    have h2:=o.tl _ (ZmM hz.2)
    obtain ⟨m4,e4,r4⟩:=impl_if hc (c:=(addP t.2.2 (a.getD (a.length - 1 - k) 0 :: t.1) (lessOf b) 1).2.1) (a:=x.1) (b:=x.2) (litN_mono o.ga.lit hgr.lines) (litN_mono h1 hgr.lines) (litN_mono h2 (o.ga.grow.trans hgr).lines) mm hrr
    refine ⟨m4,?_,r4⟩
    have hz2:([a.getD (a.length - 1 - k) 0] ++ t.1)[j]? = some x.2:=hz.2
    simp only
    rw [ZmJ (by rw [Za]; simp; omega),get?_nat,get?_nat,hz.1,hz2]
    simp only [ZmD]
    have e4':Zc (D.builder.mk (D.Circuit.mk mm.c.Inputs mm.c.Gates) mm.line mm.full) (addP t.2.2 (a.getD (a.length - 1 - k) 0 :: t.1) (lessOf b) 1).2.1 x.1 x.2 = _:=e4
    rw [e4']
    simp only [ZmD]
    rw [set?_nat (by rw [hL,o.zl]; exact hj)]
    simp only [ZmD]
    rw [Zb (by omega) (by omega)]
    rfl) (fun L mm=>by
    simp only
    rw [o.zl,ZmI (by rw [Za]; simp)]) r2
  refine ⟨_,?_,m3,rfl,r3⟩
  simp only
  rw [ZmJ (by simp; omega),hidx,get?_nat,getD_get (l:=a) (by omega)]
  simp only [ZmD]
  rw [Zbl (by simp [g.len]; omega)]
  simp only [ZmD]
  have h2':ZR fuel (D.builder.mk (D.Circuit.mk m1.c.Inputs m1.c.Gates) m1.line m1.full) ([a.getD (a.length - 1 - k) 0] ++ t.1) (negs b ++ [1]) 1 = _:=h2
  rw [h2']
  simp only [ZmD]
  rw [set?_nat (by simp [g.clen]; omega),Zhm (by simp) hk]
  simp only [ZmD]
  have h3':=h3
  simp only [Zpa] at h3'
  rw [h3']
  simp only [ZmD]
  rw [Zb (by omega) (by omega)]
  simp only [Option.some.injEq,Sum.inl.injEq,Prod.mk.injEq]
  exact ⟨by omega,rfl,rfl,trivial⟩
 ·obtain ⟨m1, rfl, hr⟩ := ht
  refine ⟨_,?_,m1,rfl,hr⟩
  simp only
  rw [ZmI (by simp; omega)]
  simp
 ·obtain ⟨m', rfl, h2⟩ := hr
  exact ⟨_,rfl,m',rfl,h2⟩
end
end Go.Proofs.YtgpcokpcbjloiaaGreat.Cc
end
section
namespace Go.Proofs.YtgpcokpcbjloiaaGreat.Cc
open Go.GL
variable {fuel:Nat} [FU fuel]
def lg (w:Nat):Nat:=if w ≤ 1 then 0 else if w ≤ 2 then 1 else if w ≤ 4 then 2 else if w ≤ 8 then 3 else 4
theorem Zgp:∀ w,w < 16 → ∀ k,k < 16 → (2 ^ k < w ↔ k < lg w):=by decide
theorem ZgQ:∀ w,w < 16 → 1 ≤ w → lg w < w:=by decide
theorem Zkj (w:Nat):lg w ≤ 4:=by
 unfold lg
 split; omega
 split; omega
 split; omega
 split <;> omega
theorem ZiO:∀ k:Nat,k < 16 → shl? 1 (k:Int) = some ((2 ^ k:Nat):Int):=by decide
theorem u64k {k:Nat} (h:k < 1000):IntKind.u64.wrap (k:Int) = k:=by unfold IntKind.wrap; simp [IntKind.bits,IntKind.signed]; omega
theorem Zea {σt ρt:Type} {B:σt → Option (σt ⊕ ρt)} {I:Nat → σt → Prop} {m:Nat} (hs:∀ k s,k < m → I k s → ∃ s',B s = some (.inl s') ∧ I (k + 1) s') :
  ∀ (d k:Nat) (s:σt),k + d = m → I k s → ∀ n,∃ s',I m s' ∧ iterN B (n + d) s = iterN B n s'
 | 0,k,s,hk,hi,n=>by
  obtain rfl:k = m:=by omega
  exact ⟨s,hi,rfl⟩
 | d + 1,k,s,hk,hi,n=>by
  obtain ⟨s1,h1,h2⟩:=hs k s (by omega) hi
  obtain ⟨s',h3,h4⟩:=Zea hs d (k + 1) s1 (by omega) h2 n
  refine ⟨s',h3,?_⟩
  rw [← h4,← Nat.add_assoc]
  conv=>lhs; unfold iterN
  rw [h1]
def pick (L:Bool) (d:Nat) (fill:Int) (out:List Int) (j:Nat):Int:=
 if L then (if d ≤ j then out.getD (j - d) 0 else fill) else (if j + d < out.length then out.getD (j + d) 0 else fill)
theorem Zkr {L:Bool} {d:Nat} {fill:Int} {out:List Int} {j:Nat} (hj:j < out.length):pick L d fill out j = fill ∨ pick L d fill out j ∈ out:=by
 unfold pick
 cases L
 ·simp only [ZmF, ZmQ]
  split
  ·exact .inr (getD_mem (by assumption))
  ·exact .inl rfl
 ·simp only [Znl]
  split
  ·exact .inr (getD_mem (by omega))
  ·exact .inl rfl
def shPairs (L:Bool) (d:Nat) (fill:Int) (out:List Int):List (Int × Int):=(List.range out.length).map fun j=>(pick L d fill out j,out.getD j 0)
theorem Xw {L:Bool} {d:Nat} {fill:Int} {out:List Int}:(shPairs L d fill out).length = out.length:=by simp [shPairs]
theorem Zcu {L:Bool} {d:Nat} {fill:Int} {out:List Int} {j:Nat} {x:Int × Int} (h:(shPairs L d fill out)[j]? = some x):j < out.length ∧ x = (pick L d fill out j,out.getD j 0):=by
 have hj:j < out.length:=by have:=(ZmG.1 h).1; rwa [Xw] at this
 refine ⟨hj,?_⟩
 unfold shPairs at h
 rw [Znn,Zpe hj] at h
 exact (Option.some.inj h).symm
def shStep (L:Bool) (fill:Int) (b:List Int) (t:LS) (k:Nat):LS:=seqP (selF (b.getD k 0)) t.2 (shPairs L (2 ^ k) fill t.1)
def shK (s:BS) (a b:List Int) (L:Bool) (fill:Int) (k:Nat):LS:=(List.range k).foldl (shStep L fill b) (a,s)
theorem shK_succ (s:BS) (a b:List Int) (L:Bool) (fill:Int) (k:Nat):shK s a b L fill (k + 1) = shStep L fill b (shK s a b L fill k) k:=by
 unfold shK; rw [Zo8,ZnS]; rfl
def orF:BS → Int → Int → Int × BS:=fun s c x=>orP s c x
def finF (c fill:Int):BS → Int → Int × BS:=fun s x=>ifP s c fill x
def shFar (s:BS) (a b:List Int) (L:Bool) (fill:Int):Int × BS:=accP orF (shK s a b L fill (lg a.length)).2 (-1) (b.drop (lg a.length))
def shP (s:BS) (a b:List Int) (L:Bool) (fill:Int):LS:=seqP (finF (shFar s a b L fill).1 fill) (shFar s a b L fill).2 (shK s a b L fill (lg a.length)).1
section
variable {s:BS} {a b:List Int} {L:Bool} {fill:Int} (hab:a.length = b.length) (hl:a.length ≤ 15) (ha:∀ x ∈ a,litN (lines s.1) x = true) (hb:∀ x ∈ b,litN (lines s.1) x = true) (hf:litN (lines s.1) fill = true)
include hab hl ha hb hf
omit hl ha in
theorem Zls {t:LS} (g:GoodL s a.length t) {k:Nat} (hk:k < a.length) (d:Nat):FOk (selF (b.getD k 0)) t.2 (shPairs L d fill t.1):=by
 intro s' p hc hgr hp
 obtain ⟨j,hj⟩:=Zot hp
 obtain ⟨hj',rfl⟩:=Zcu hj
 have e:=g.grow.trans hgr
 refine if_good hc (litN_mono (hb _ (getD_mem (by omega))) e.lines) ?_ (litN_mono (g.lits _ (getD_mem hj')) hgr.lines)
 rcases Zkr (L:=L) (d:=d) (fill:=fill) hj' with h | h
 ·simp only [h]; exact litN_mono hf e.lines
 ·exact litN_mono (g.lits _ h) hgr.lines
omit hl in
theorem ZbR (hs:CircP s.1) (k:Nat) (hk:k ≤ a.length):GoodL s a.length (shK s a b L fill k):=by
 induction k with
 | zero=>exact ⟨hs,Grow.refl _,rfl,ha⟩
 | succ k ih=>
  have g:=ih (by omega)
  rw [shK_succ]
  generalize shK s a b L fill k = t at g ⊢
  have o:=Zls hab hb hf g (k:=k) (by omega) (L:=L) (2 ^ k)
  have gq:=seq_good g.circ o
  rw [Xw,g.len] at gq
  exact ⟨gq.circ,g.grow.trans gq.grow,gq.len,gq.lits⟩
omit hab hl ha hf in
theorem Zie {t:LS} (g:GoodL s a.length t) (k:Nat):AOk orF t.2 (b.drop k):=by
 intro s' c x hc hgr hlc hx
 exact Zel hc hlc (litN_mono (hb _ (Zoe hx)) (g.grow.trans hgr).lines)
theorem Zd8 (hs:CircP s.1) (hw:1 ≤ a.length):Good (shK s a b L fill (lg a.length)).2 (shFar s a b L fill):=by
 have g:=ZbR hab ha hb hf hs (L:=L) (lg a.length) (by have:=ZgQ a.length (by omega) hw; omega)
 exact Zho g.circ (YS g.circ) (Zie hb g _)
theorem fin_ok (hs:CircP s.1) (hw:1 ≤ a.length):FOk (finF (shFar s a b L fill).1 fill) (shFar s a b L fill).2 (shK s a b L fill (lg a.length)).1:=by
 have g:=ZbR hab ha hb hf hs (L:=L) (lg a.length) (by have:=ZgQ a.length (by omega) hw; omega)
 have gf:=Zd8 hab hl ha hb hf hs hw (L:=L)
 intro s' x hc hgr hx
 exact if_good hc (litN_mono gf.lit hgr.lines) (litN_mono hf ((g.grow.trans gf.grow).trans hgr).lines) (litN_mono (g.lits _ hx) (gf.grow.trans hgr).lines)
theorem Ze8 (hs:CircP s.1) (hw:1 ≤ a.length):GoodL s a.length (shP s a b L fill):=by
 have g:=ZbR hab ha hb hf hs (L:=L) (lg a.length) (by have:=ZgQ a.length (by omega) hw; omega)
 have gf:=Zd8 hab hl ha hb hf hs hw (L:=L)
 have gq:=seq_good gf.circ (fin_ok hab hl ha hb hf hs hw)
 rw [g.len] at gq
 exact ⟨gq.circ,(g.grow.trans gf.grow).trans gq.grow,gq.len,gq.lits⟩
end
theorem Zk7 {L:Bool} {d j:Nat} {fill:Int} {out:List Int} (hd:d ≤ 40000) (hj:j < out.length) (hl:out.length ≤ 15) :
  (∃ i:Nat,i < out.length ∧ (cond L (w64 ((j:Int) - (d:Int))) (w64 ((j:Int) + (d:Int)))) = (i:Int) ∧ pick L d fill out j = out.getD i 0) ∨
  (((cond L (w64 ((j:Int) - (d:Int))) (w64 ((j:Int) + (d:Int)))) < 0 ∨ (out.length:Int) ≤ (cond L (w64 ((j:Int) - (d:Int))) (w64 ((j:Int) + (d:Int))))) ∧ pick L d fill out j = fill):=by
 cases L
 ·simp only [cond_false]
  rw [Zb (by omega) (by omega)]
  by_cases h:j + d < out.length
  ·exact .inl ⟨j + d,h,by omega,by simp [pick,h]⟩
  ·exact .inr ⟨.inr (by omega),by simp [pick,h]⟩
 ·simp only [cond_true]
  rw [Zb (by omega) (by omega)]
  by_cases h:d ≤ j
  ·exact .inl ⟨j - d,by omega,by omega,by simp [pick,h]⟩
  ·exact .inr ⟨.inl (by omega),by simp [pick,h]⟩
section
variable {s:BS} (hs:CircP s.1) {a b:List Int} {op fill:Int} (hab:a.length = b.length) (hl:a.length ≤ 15) (hw:1 ≤ a.length) (ha:∀ x ∈ a,litN (lines s.1) x = true) (hb:∀ x ∈ b,litN (lines s.1) x = true) (hf:litN (lines s.1) fill = true)
include hs hab hl hw ha hb hf
theorem Zcq:(
  (iterN (fun (s1 : Int × Bool × (List Int) × Int × Int × Bool × (List D.Gate)) =>
   if (decide (s1.2.2.2.1 < (len a))) then
    (shl? 1 s1.2.2.2.1).bind fun x2=>
    if (decide (x2 ≥ (len a))) then
     (get? b s1.2.2.2.1).bind fun x3=>
     (Zq fuel (D.l04Net.mk (D.Circuit.mk s1.2.2.2.2.1 s1.2.2.2.2.2.2) s1.2.2.2.2.2.1) s1.1 x3).bind fun x4=>
     some (.inl (x4.1,true,s1.2.2.1,(w64 (s1.2.2.2.1 + 1)),x4.2.c.Inputs,x4.2.full,x4.2.c.Gates))
    else
     (iterN (fun (s2 : Int × (List Int) × Int × Bool × (List D.Gate)) =>
      if (decide (s2.1 < (len a))) then
       (Zg (cond (op == 11) (w64 (s2.1 - x2)) (w64 (s2.1 + x2))) 0 (w64 ((len a) - 1))).bind fun x5=>
       if x5 then
        (get? s1.2.2.1 (cond (op == 11) (w64 (s2.1 - x2)) (w64 (s2.1 + x2)))).bind fun x6=>
        (get? b s1.2.2.2.1).bind fun x7=>
        (get? s1.2.2.1 s2.1).bind fun x8=>
        (Zl fuel (D.l04Net.mk (D.Circuit.mk s2.2.2.1 s2.2.2.2.2) s2.2.2.2.1) x7 x6 x8).bind fun x9=>
        (app? s2.2.1 ([x9.1]:List Int)).bind fun x10=>
        some (.inl ((w64 (s2.1 + 1)),x10,x9.2.c.Inputs,x9.2.full,x9.2.c.Gates))
       else
        (get? b s1.2.2.2.1).bind fun x11=>
        (get? s1.2.2.1 s2.1).bind fun x12=>
        (Zl fuel (D.l04Net.mk (D.Circuit.mk s2.2.2.1 s2.2.2.2.2) s2.2.2.2.1) x11 fill x12).bind fun x13=>
        (app? s2.2.1 ([x13.1]:List Int)).bind fun x14=>
        some (.inl ((w64 (s2.1 + 1)),x14,x13.2.c.Inputs,x13.2.full,x13.2.c.Gates))
      else
       some (.inr (s2.2.1,s2.2.2.1,s2.2.2.2.1,s2.2.2.2.2))
     ) fuel (0,([]:List Int),s1.2.2.2.2.1,s1.2.2.2.2.2.1,s1.2.2.2.2.2.2)).bind fun (rl2:(List Int) × Int × Bool × (List D.Gate))=>
     some (.inl (s1.1,s1.2.1,rl2.1,(w64 (s1.2.2.2.1 + 1)),rl2.2.1,rl2.2.2.1,rl2.2.2.2))
   else
    some (.inr (s1.1,s1.2.1,s1.2.2.1,s1.2.2.2.2.1,s1.2.2.2.2.2.1,s1.2.2.2.2.2.2))
  ) fuel ((-1),false,a,0,(net s).c.Inputs,(net s).full,(net s).c.Gates)).bind fun (rl1:Int × Bool × (List Int) × Int × Bool × (List D.Gate))=>
  if (!rl1.2.1) then
   some (rl1.2.2.1,(D.l04Net.mk (D.Circuit.mk rl1.2.2.2.1 rl1.2.2.2.2.2) rl1.2.2.2.2.1))
  else
   (iterN (fun (s3 : Int × (List Int) × Int × Bool × (List D.Gate)) =>
    if (decide (s3.1 < (len a))) then
     (get? rl1.2.2.1 s3.1).bind fun x15=>
     (Zl fuel (D.l04Net.mk (D.Circuit.mk s3.2.2.1 s3.2.2.2.2) s3.2.2.2.1) rl1.1 fill x15).bind fun x16=>
     (app? s3.2.1 ([x16.1]:List Int)).bind fun x17=>
     some (.inl ((w64 (s3.1 + 1)),x17,x16.2.c.Inputs,x16.2.full,x16.2.c.Gates))
    else
     some (.inr (s3.2.1,s3.2.2.1,s3.2.2.2.1,s3.2.2.2.2))
   ) fuel (0,([]:List Int),rl1.2.2.2.1,rl1.2.2.2.2.1,rl1.2.2.2.2.2)).bind fun (rl3:(List Int) × Int × Bool × (List D.Gate))=>
   some (rl3.1,(D.l04Net.mk (D.Circuit.mk rl3.2.1 rl3.2.2.2) rl3.2.2.1))) = some ((shP s a b (op == 11) fill).1,net (shP s a b (op == 11) fill).2):=by
 generalize hL:(op == 11) = L
 have hlg:=ZgQ a.length (by omega) hw
 have gl:=ZbR hab ha hb hf hs (L:=L) (lg a.length) (by omega)
 obtain ⟨t1,ht1,e1⟩:=Zea (B:=(fun (s1:Int × Bool × (List Int) × Int × Int × Bool × (List D.Gate))=>
   if (decide (s1.2.2.2.1 < (len a))) then
    (shl? 1 s1.2.2.2.1).bind fun x2=>
    if (decide (x2 ≥ (len a))) then
     (get? b s1.2.2.2.1).bind fun x3=>
     (Zq fuel (D.l04Net.mk (D.Circuit.mk s1.2.2.2.2.1 s1.2.2.2.2.2.2) s1.2.2.2.2.2.1) s1.1 x3).bind fun x4=>
     some (.inl (x4.1,true,s1.2.2.1,(w64 (s1.2.2.2.1 + 1)),x4.2.c.Inputs,x4.2.full,x4.2.c.Gates))
    else
     (iterN (fun (s2 : Int × (List Int) × Int × Bool × (List D.Gate)) =>
      if (decide (s2.1 < (len a))) then
       (Zg (cond L (w64 (s2.1 - x2)) (w64 (s2.1 + x2))) 0 (w64 ((len a) - 1))).bind fun x5=>
       if x5 then
        (get? s1.2.2.1 (cond L (w64 (s2.1 - x2)) (w64 (s2.1 + x2)))).bind fun x6=>
        (get? b s1.2.2.2.1).bind fun x7=>
        (get? s1.2.2.1 s2.1).bind fun x8=>
        (Zl fuel (D.l04Net.mk (D.Circuit.mk s2.2.2.1 s2.2.2.2.2) s2.2.2.2.1) x7 x6 x8).bind fun x9=>
        (app? s2.2.1 ([x9.1]:List Int)).bind fun x10=>
        some (.inl ((w64 (s2.1 + 1)),x10,x9.2.c.Inputs,x9.2.full,x9.2.c.Gates))
       else
        (get? b s1.2.2.2.1).bind fun x11=>
        (get? s1.2.2.1 s2.1).bind fun x12=>
        (Zl fuel (D.l04Net.mk (D.Circuit.mk s2.2.2.1 s2.2.2.2.2) s2.2.2.2.1) x11 fill x12).bind fun x13=>
        (app? s2.2.1 ([x13.1]:List Int)).bind fun x14=>
        some (.inl ((w64 (s2.1 + 1)),x14,x13.2.c.Inputs,x13.2.full,x13.2.c.Gates))
      else
       some (.inr (s2.2.1,s2.2.2.1,s2.2.2.2.1,s2.2.2.2.2))
     ) fuel (0,([]:List Int),s1.2.2.2.2.1,s1.2.2.2.2.2.1,s1.2.2.2.2.2.2)).bind fun (rl2:(List Int) × Int × Bool × (List D.Gate))=>
     some (.inl (s1.1,s1.2.1,rl2.1,(w64 (s1.2.2.2.1 + 1)),rl2.2.1,rl2.2.2.1,rl2.2.2.2))
   else
    some (.inr (s1.1,s1.2.1,s1.2.2.1,s1.2.2.2.2.1,s1.2.2.2.2.2.1,s1.2.2.2.2.2.2))
)) (I:=fun k t=>t = ((-1:Int),false,(shK s a b L fill k).1,(k:Int),(shK s a b L fill k).2.1.Inputs,(shK s a b L fill k).2.2,(shK s a b L fill k).2.1.Gates)) (m:=lg a.length) (fun k t hk ht=>by
  subst ht
  have g:=ZbR hab ha hb hf hs (L:=L) k (by omega)
  have o:=Zls hab hb hf g (k:=k) (by omega) (L:=L) (2 ^ k)
  refine ⟨_,?_,rfl⟩
  rw [shK_succ]
  generalize shK s a b L fill k = t at g o ⊢
  have hp:2 ^ k < a.length:=by rw [Zgp _ (by omega) _ (by omega)]; omega
  simp only
  rw [ZmJ (by rw [Za]; simp; omega),ZiO _ (by omega)]
  simp only [ZmD]
  rw [ZmI (by rw [Za]; simp only [ge_iff_le,ZmN]; exact fun h=>by have:=Int.ofNat_le.1 h; omega)]
  rw [spec_seq (f:=selF (b.getD k 0)) (s:=t.2) (l:=shPairs L (2 ^ k) fill t.1) g.circ (by rw [Xw,g.len]; omega) o (fun j out s' x hx hc hgr hout=>?_) (fun out s'=>?_)]
  ·simp only [ZmD]
   rw [Zb (by omega) (by omega)]
   rfl
  ·obtain ⟨hj, rfl⟩ := Zcu hx
   have e:=g.grow.trans hgr
   have hbk:=litN_mono (hb _ (getD_mem (l:=b) (k:=k) (by omega))) e.lines
   have hoj:=litN_mono (g.lits _ (getD_mem hj)) hgr.lines
   have hln:=g.len
   simp only
   rw [ZmJ (by rw [Za]; simp; omega),Za,Zb (x:=(a.length:Int) - 1) (by omega) (by omega)]
   rcases Zk7 (L:=L) (d:=2 ^ k) (j:=j) (fill:=fill) (out:=t.1) (by omega) hj (by omega) with ⟨i,hi,h1,h2⟩ | ⟨h1,h2⟩
   ·have e1:Zg (i:Int) 0 ((a.length:Int) - 1) = some true:=by
     unfold Zg; simp; omega
    rw [h1,e1]
    simp only [ZmD,Znl]
    rw [get?_nat,get?_nat,get?_nat,getD_get hi,getD_get (l:=b) (by omega),getD_get hj]
    simp only [ZmD]
    have si:Zl fuel (D.l04Net.mk (D.Circuit.mk s'.1.Inputs s'.1.Gates) s'.2) (b.getD k 0) (t.1.getD i 0) (t.1.getD j 0) = _:=spec_if (fuel:=fuel) hc hbk (litN_mono (g.lits _ (getD_mem hi)) hgr.lines) hoj
    rw [si]
    simp only [ZmD]
    rw [Zbl (by simp; omega)]
    simp only [ZmD]
    rw [Zb (by omega) (by omega)]
    unfold selF
    simp only [h2]
    rfl
   ·have e1:∀ z:Int,(z < 0 ∨ (t.1.length:Int) ≤ z) → Zg z 0 ((a.length:Int) - 1) = some false:=by
     intro z hz
     unfold Zg; simp; omega
    rw [e1 _ h1]
    simp only [ZmD,ZmF,ZmQ]
    rw [get?_nat,get?_nat,getD_get (l:=b) (by omega),getD_get hj]
    simp only [ZmD]
    have si:Zl fuel (D.l04Net.mk (D.Circuit.mk s'.1.Inputs s'.1.Gates) s'.2) (b.getD k 0) fill (t.1.getD j 0) = _:=spec_if (fuel:=fuel) hc hbk (litN_mono hf e.lines) hoj
    rw [si]
    simp only [ZmD]
    rw [Zbl (by simp; omega)]
    simp only [ZmD]
    rw [Zb (by omega) (by omega)]
    unfold selF
    simp only [h2]
    rfl
  ·simp only
   rw [ZmI (by rw [Za,Xw,g.len]; simp)]) (lg a.length) 0 ((-1:Int),false,a,0,(net s).c.Inputs,(net s).full,(net s).c.Gates) (by omega) rfl (fuel - lg a.length)
 ·subst ht1
  rw [Nat.sub_add_cancel (by have:=Zkj a.length; have:=FU.le (n:=fuel); omega)] at e1
  rw [e1]
  refine Eq.trans (congrArg (fun o=>Option.bind o _) (ZfI (f:=orF) (l:=b.drop (lg a.length)) (s:=(shK s a b L fill (lg a.length)).2) (c:=-1) (fun j c s'=>(c,decide (0 < j),(shK s a b L fill (lg a.length)).1,((lg a.length + j:Nat):Int),s'.1.Inputs,s'.2,s'.1.Gates)) (fun c s'=>(c,true,(shK s a b L fill (lg a.length)).1,s'.1.Inputs,s'.2,s'.1.Gates)) gl.circ (YS gl.circ) (Zie hb gl _) (fun j c s' x hx hc hgr hlc=>?_) (fun c s'=>?_) (by have:=Zkj a.length; rw [Znh]; have:=FU.le (n:=fuel); omega))) ?_
  rotate_left 2
  ·simp only [ZmD, ZmT, ZmF, ZmQ]
   have gf:=Zd8 hab hl ha hb hf hs hw (L:=L)
   have hfar:accP orF (shK s a b L fill (lg a.length)).2 (-1) (b.drop (lg a.length)) = shFar s a b L fill:=rfl
   rw [hfar]
   rw [spec_seq (f:=finF (shFar s a b L fill).1 fill) (s:=(shFar s a b L fill).2) (l:=(shK s a b L fill (lg a.length)).1) gf.circ (by rw [gl.len]; omega) (fin_ok hab hl ha hb hf hs hw) (fun j out s' x hx hc hgr hout=>?_) (fun out s'=>?_)]
   ·rfl
   ·have hj:j < a.length:=by
     have:=(ZmG.1 hx).1
     rw [gl.len] at this; exact this
    simp only
    rw [ZmJ (by rw [Za]; simp; omega),get?_nat,hx]
    simp only [ZmD]
    have si:Zl fuel (D.l04Net.mk (D.Circuit.mk s'.1.Inputs s'.1.Gates) s'.2) (shFar s a b L fill).1 fill x = _:=spec_if (fuel:=fuel) hc (litN_mono gf.lit hgr.lines) (litN_mono hf ((gl.grow.trans gf.grow).trans hgr).lines) (litN_mono (gl.lits _ (ZmM hx)) (gf.grow.trans hgr).lines)
    rw [si]
    simp only [ZmD]
    rw [Zbl (by simp; omega)]
    simp only [ZmD]
    rw [Zb (by omega) (by omega)]
    rfl
   ·simp only
    rw [ZmI (by rw [Za,gl.len]; simp)]
  ·have hj:lg a.length + j < b.length ∧ b[lg a.length + j]? = some x:=by
    rw [ZnD] at hx
    exact ⟨(ZmG.1 hx).1,hx⟩
   simp only
   have hp:¬ (2 ^ (lg a.length + j) < a.length):=by rw [Zgp _ (by omega) _ (by omega)]; omega
   rw [ZmJ (by rw [Za]; simp; omega),ZiO _ (by omega)]
   simp only [ZmD]
   rw [ZmJ (by rw [Za]; simp only [ge_iff_le,ZmN]; exact Int.ofNat_le.2 (by omega)),get?_nat,hj.2]
   simp only [ZmD]
   have so:Zq fuel (D.l04Net.mk (D.Circuit.mk s'.1.Inputs s'.1.Gates) s'.2) c x = _:=Zej (fuel:=fuel) hc hlc (litN_mono (hb _ (ZmM hj.2)) (gl.grow.trans hgr).lines)
   rw [so]
   simp only [ZmD]
   rw [Zb (by omega) (by omega)]
   simp only [Option.some.injEq,Sum.inl.injEq,Prod.mk.injEq]
   exact ⟨by trivial,by simp,by trivial,by omega,by trivial,by trivial,by trivial⟩
  ·simp only
   rw [ZmI (by rw [Za,Znh]; simp; omega)]
   rw [Znh]
   have:decide (0 < b.length - lg a.length) = true:=by simp; omega
   rw [this]
theorem Zcd {m:D.builder} (hm:RelB m s):∃ m',(
  (Ze a).bind fun x2 =>
  (iterN (fun (s1 : Int × (List Int) × Int × Bool × (List D.Gate) × (List (D.Gate × Int))) =>
   (if (decide (s1.1 < (len a))) then (shl? 1 (IntKind.u64.wrap s1.1)) else some default).bind fun x3=>
   if ((decide (s1.1 < (len a))) && (decide (x3 < (len a)))) then
    (Ze s1.2.1).bind fun x4 =>
    (iterN (fun (s2 : Int × (List Int) × Int × Bool × (List D.Gate) × (List (D.Gate × Int))) =>
     if (decide (s2.1 < (len s1.2.1))) then
      (shl? 1 (IntKind.u64.wrap s1.1)).bind fun x5=>
      if (op == 11) then
       (shl? 1 (IntKind.u64.wrap s1.1)).bind fun x6=>
       if ((decide ((w64 (s2.1 - x6)) ≥ 0)) && (decide ((w64 (s2.1 - x6)) < (len a)))) then
        (get? x4 (w64 (s2.1 - x6))).bind fun x7=>
        (get? b s1.1).bind fun x8=>
        (get? x4 s2.1).bind fun x9=>
        (Zc (D.builder.mk (D.Circuit.mk s2.2.2.1 s2.2.2.2.2.1) s2.2.2.2.2.2 s2.2.2.2.1) x8 x7 x9).bind fun x10=>
        (set? s2.2.1 s2.1 x10.1).bind fun x11=>
        some (.inl ((w64 (s2.1 + 1)),x11,x10.2.c.Inputs,x10.2.full,x10.2.c.Gates,x10.2.line))
       else
        (get? b s1.1).bind fun x12=>
        (get? x4 s2.1).bind fun x13=>
        (Zc (D.builder.mk (D.Circuit.mk s2.2.2.1 s2.2.2.2.2.1) s2.2.2.2.2.2 s2.2.2.2.1) x12 fill x13).bind fun x14=>
        (set? s2.2.1 s2.1 x14.1).bind fun x15=>
        some (.inl ((w64 (s2.1 + 1)),x15,x14.2.c.Inputs,x14.2.full,x14.2.c.Gates,x14.2.line))
      else
       if ((decide ((w64 (s2.1 + x5)) ≥ 0)) && (decide ((w64 (s2.1 + x5)) < (len a)))) then
        (get? x4 (w64 (s2.1 + x5))).bind fun x16=>
        (get? b s1.1).bind fun x17=>
        (get? x4 s2.1).bind fun x18=>
        (Zc (D.builder.mk (D.Circuit.mk s2.2.2.1 s2.2.2.2.2.1) s2.2.2.2.2.2 s2.2.2.2.1) x17 x16 x18).bind fun x19=>
        (set? s2.2.1 s2.1 x19.1).bind fun x20=>
        some (.inl ((w64 (s2.1 + 1)),x20,x19.2.c.Inputs,x19.2.full,x19.2.c.Gates,x19.2.line))
       else
        (get? b s1.1).bind fun x21=>
        (get? x4 s2.1).bind fun x22=>
        (Zc (D.builder.mk (D.Circuit.mk s2.2.2.1 s2.2.2.2.2.1) s2.2.2.2.2.2 s2.2.2.2.1) x21 fill x22).bind fun x23=>
        (set? s2.2.1 s2.1 x23.1).bind fun x24=>
        some (.inl ((w64 (s2.1 + 1)),x24,x23.2.c.Inputs,x23.2.full,x23.2.c.Gates,x23.2.line))
     else
      some (.inr (s2.2.1,s2.2.2.1,s2.2.2.2.1,s2.2.2.2.2.1,s2.2.2.2.2.2))
    ) fuel (0,s1.2.1,s1.2.2.1,s1.2.2.2.1,s1.2.2.2.2.1,s1.2.2.2.2.2)).bind fun (rl2:(List Int) × Int × Bool × (List D.Gate) × (List (D.Gate × Int)))=>
    some (.inl ((w64 (s1.1 + 1)),rl2.1,rl2.2.1,rl2.2.2.1,rl2.2.2.2.1,rl2.2.2.2.2))
   else
    some (.inr (s1.1,s1.2.1,s1.2.2.1,s1.2.2.2.1,s1.2.2.2.2.1,s1.2.2.2.2.2))
  ) fuel (0,x2,m.c.Inputs,m.full,m.c.Gates,m.line)).bind fun (rl1:Int × (List Int) × Int × Bool × (List D.Gate) × (List (D.Gate × Int)))=>
  if (decide (rl1.1 < (len a))) then
   (iterN (fun (s3 : Int × Int × Int × Bool × (List D.Gate) × (List (D.Gate × Int))) =>
    if (decide (s3.1 < (len a))) then
     (get? b s3.1).bind fun x25=>
     (Z0 (D.builder.mk (D.Circuit.mk s3.2.2.1 s3.2.2.2.2.1) s3.2.2.2.2.2 s3.2.2.2.1) s3.2.1 x25).bind fun x26=>
     some (.inl ((w64 (s3.1 + 1)),x26.1,x26.2.c.Inputs,x26.2.full,x26.2.c.Gates,x26.2.line))
    else
     some (.inr (s3.2.1,s3.2.2.1,s3.2.2.2.1,s3.2.2.2.2.1,s3.2.2.2.2.2))
   ) fuel (rl1.1,(-1),rl1.2.2.1,rl1.2.2.2.1,rl1.2.2.2.2.1,rl1.2.2.2.2.2)).bind fun (rl3:Int × Int × Bool × (List D.Gate) × (List (D.Gate × Int))) =>
   (iterN (fun (s4 : Int × (List Int) × Int × Bool × (List D.Gate) × (List (D.Gate × Int))) =>
    if (decide (s4.1 < (len rl1.2.1))) then
     (get? s4.2.1 s4.1).bind fun x27=>
     (Zc (D.builder.mk (D.Circuit.mk s4.2.2.1 s4.2.2.2.2.1) s4.2.2.2.2.2 s4.2.2.2.1) rl3.1 fill x27).bind fun x28=>
     (set? s4.2.1 s4.1 x28.1).bind fun x29=>
     some (.inl ((w64 (s4.1 + 1)),x29,x28.2.c.Inputs,x28.2.full,x28.2.c.Gates,x28.2.line))
    else
     some (.inr (s4.2.1,s4.2.2.1,s4.2.2.2.1,s4.2.2.2.2.1,s4.2.2.2.2.2))
   ) fuel (0,rl1.2.1,rl3.2.1,rl3.2.2.1,rl3.2.2.2.1,rl3.2.2.2.2)).bind fun (rl4:(List Int) × Int × Bool × (List D.Gate) × (List (D.Gate × Int)))=>
   some (rl4.1,(D.builder.mk (D.Circuit.mk rl4.2.1 rl4.2.2.2.1) rl4.2.2.2.2 rl4.2.2.1))
  else
   some (rl1.2.1,(D.builder.mk (D.Circuit.mk rl1.2.2.1 rl1.2.2.2.2.1) rl1.2.2.2.2.2 rl1.2.2.2.1))) = some ((shP s a b (op == 11) fill).1,m') ∧ RelB m' (shP s a b (op == 11) fill).2:=by
 generalize hL:(op == 11) = L
 have hlg:=ZgQ a.length (by omega) hw
 have gl:=ZbR hab ha hb hf hs (L:=L) (lg a.length) (by omega)
 have hcl:∀ l:List Int,l.length ≤ 1000 → Ze l = some l:=fun l h=>by unfold Ze; rw [Zek h]; rfl
 rw [hcl a (by omega)]
 simp only [ZmD]
 refine Zi7 ?_
 refine Zce (I:=fun k t=>∃ m':D.builder,t = ((k:Int),(shK s a b L fill k).1,m'.c.Inputs,m'.full,m'.c.Gates,m'.line) ∧ RelB m' (shK s a b L fill k).2) (R:=fun r=>∃ m':D.builder,r = (((lg a.length:Nat):Int),(shK s a b L fill (lg a.length)).1,m'.c.Inputs,m'.full,m'.c.Gates,m'.line) ∧ RelB m' (shK s a b L fill (lg a.length)).2) (m:=lg a.length) (fun k t hk ht=>?_) (fun t ht=>?_) (lg a.length) 0 _ (by omega) ⟨m,rfl,hm⟩ fuel (lt_fuel (by have:=Zkj a.length; omega)) (fun r hr=>?_)
 ·obtain ⟨m1, rfl, hr⟩ := ht
  have g:=ZbR hab ha hb hf hs (L:=L) k (by omega)
  have o:=Zls hab hb hf g (k:=k) (by omega) (L:=L) (2 ^ k)
  rw [shK_succ]
  generalize shK s a b L fill k = t at g o hr ⊢
  have hln:=g.len
  have hp:2 ^ k < a.length:=by rw [Zgp _ (by omega) _ (by omega)]; omega
  have hsh:shl? 1 (IntKind.u64.wrap (k:Int)) = some ((2 ^ k:Nat):Int):=by rw [u64k (by omega),ZiO _ (by omega)]
  have hkl:decide ((k:Int) < len a) = true:=by rw [Za]; simp; omega
  have hpl:decide (((2 ^ k:Nat):Int) < len a) = true:=by rw [Za,ZmN]; exact Int.ofNat_lt.2 hp
  simp only [hkl,Znl,hsh,ZmD,hpl,ZpI]
  rw [hcl t.1 (by omega)]
  simp only [ZmD]
  rw [show len t.1 = len a by rw [Za,Za,g.len]]
  obtain ⟨m3,h3,r3⟩:=ZdR (fuel:=fuel) (f:=selF (b.getD k 0)) (s:=t.2) (l:=shPairs L (2 ^ k) fill t.1) (L0:=t.1) (B:=(fun (s2:Int × (List Int) × Int × Bool × (List D.Gate) × (List (D.Gate × Int)))=>
     if (decide (s2.1 < (len a))) then
      (shl? 1 (IntKind.u64.wrap (k:Int))).bind fun x5=>
      if L then
       (shl? 1 (IntKind.u64.wrap (k:Int))).bind fun x6=>
       if ((decide ((w64 (s2.1 - x6)) ≥ 0)) && (decide ((w64 (s2.1 - x6)) < (len a)))) then
        (get? t.1 (w64 (s2.1 - x6))).bind fun x7=>
        (get? b (k:Int)).bind fun x8=>
        (get? t.1 s2.1).bind fun x9=>
        (Zc (D.builder.mk (D.Circuit.mk s2.2.2.1 s2.2.2.2.2.1) s2.2.2.2.2.2 s2.2.2.2.1) x8 x7 x9).bind fun x10=>
        (set? s2.2.1 s2.1 x10.1).bind fun x11=>
        some (.inl ((w64 (s2.1 + 1)),x11,x10.2.c.Inputs,x10.2.full,x10.2.c.Gates,x10.2.line))
       else
        (get? b (k:Int)).bind fun x12=>
        (get? t.1 s2.1).bind fun x13=>
        (Zc (D.builder.mk (D.Circuit.mk s2.2.2.1 s2.2.2.2.2.1) s2.2.2.2.2.2 s2.2.2.2.1) x12 fill x13).bind fun x14=>
        (set? s2.2.1 s2.1 x14.1).bind fun x15=>
        some (.inl ((w64 (s2.1 + 1)),x15,x14.2.c.Inputs,x14.2.full,x14.2.c.Gates,x14.2.line))
      else
       if ((decide ((w64 (s2.1 + x5)) ≥ 0)) && (decide ((w64 (s2.1 + x5)) < (len a)))) then
        (get? t.1 (w64 (s2.1 + x5))).bind fun x16=>
        (get? b (k:Int)).bind fun x17=>
        (get? t.1 s2.1).bind fun x18=>
        (Zc (D.builder.mk (D.Circuit.mk s2.2.2.1 s2.2.2.2.2.1) s2.2.2.2.2.2 s2.2.2.2.1) x17 x16 x18).bind fun x19=>
        (set? s2.2.1 s2.1 x19.1).bind fun x20=>
        some (.inl ((w64 (s2.1 + 1)),x20,x19.2.c.Inputs,x19.2.full,x19.2.c.Gates,x19.2.line))
       else
        (get? b (k:Int)).bind fun x21=>
        (get? t.1 s2.1).bind fun x22=>
        (Zc (D.builder.mk (D.Circuit.mk s2.2.2.1 s2.2.2.2.2.1) s2.2.2.2.2.2 s2.2.2.2.1) x21 fill x22).bind fun x23=>
        (set? s2.2.1 s2.1 x23.1).bind fun x24=>
        some (.inl ((w64 (s2.1 + 1)),x24,x23.2.c.Inputs,x23.2.full,x23.2.c.Gates,x23.2.line))
     else
      some (.inr (s2.2.1,s2.2.2.1,s2.2.2.2.1,s2.2.2.2.2.1,s2.2.2.2.2.2)))) (fun j L m=>((j:Int),L,m.c.Inputs,m.full,m.c.Gates,m.line)) (fun L m=>(L,m.c.Inputs,m.full,m.c.Gates,m.line)) g.circ (by rw [Xw]; omega) o (by rw [Xw]) (fun j Lj mm s' x hx hc hgr hrr hLl hpre=>by
    obtain ⟨hj,rfl⟩:=Zcu hx
    rw [Xw] at hLl
    have e:=g.grow.trans hgr
    have hbk:=litN_mono (hb _ (getD_mem (l:=b) (k:=k) (by omega))) e.lines
    have hoj:=litN_mono (g.lits _ (getD_mem hj)) hgr.lines
    simp only
    rw [ZmJ (by rw [Za]; simp; omega),hsh]
    simp only [ZmD]
    rcases Zk7 (L:=L) (d:=2 ^ k) (j:=j) (fill:=fill) (out:=t.1) (by omega) hj (by omega) with ⟨i,hi,h1,h2⟩ | ⟨h1,h2⟩
    ·obtain ⟨m4, e4, r4⟩ := impl_if hc (c := b.getD k 0) (a := t.1.getD i 0) (b := t.1.getD j 0) hbk (litN_mono (g.lits _ (getD_mem hi)) hgr.lines) hoj mm hrr
     have e4':Zc (D.builder.mk (D.Circuit.mk mm.c.Inputs mm.c.Gates) mm.line mm.full) (b.getD k 0) (t.1.getD i 0) (t.1.getD j 0) = _:=e4
     refine ⟨m4,?_,by unfold selF; simp only [h2]; exact r4⟩
     have hin:(decide ((i:Int) ≥ 0) && decide ((i:Int) < len a)) = true:=by rw [Za]; simp; omega
     cases L
     ·simp only [cond_false] at h1
      simp only [ZmF,ZmQ,h1,hin,Znl]
      rw [get?_nat,get?_nat,get?_nat,getD_get hi,getD_get (l:=b) (by omega),getD_get hj]
      simp only [ZmD]
      rw [e4']
      simp only [ZmD]
      rw [set?_nat (by omega)]
      simp only [ZmD]
      rw [Zb (by omega) (by omega)]
      unfold selF
      simp only [h2]
      rfl
     ·simp only [cond_true] at h1
      simp only [Znl,h1,hin]
      rw [get?_nat,get?_nat,get?_nat,getD_get hi,getD_get (l:=b) (by omega),getD_get hj]
      simp only [ZmD]
      rw [e4']
      simp only [ZmD]
      rw [set?_nat (by omega)]
      simp only [ZmD]
      rw [Zb (by omega) (by omega)]
      unfold selF
      simp only [h2]
      rfl
    ·obtain ⟨m4, e4, r4⟩ := impl_if hc (c := b.getD k 0) (a := fill) (b := t.1.getD j 0) hbk (litN_mono hf e.lines) hoj mm hrr
     have e4':Zc (D.builder.mk (D.Circuit.mk mm.c.Inputs mm.c.Gates) mm.line mm.full) (b.getD k 0) fill (t.1.getD j 0) = _:=e4
     refine ⟨m4,?_,by unfold selF; simp only [h2]; exact r4⟩
     have hin:∀ z:Int,(z < 0 ∨ (t.1.length:Int) ≤ z) → (decide (z ≥ 0) && decide (z < len a)) = false:=by
      intro z hz
      rw [Za]; simp; omega
     cases L
     ·simp only [cond_false] at h1
      simp only [ZmF,ZmQ,hin _ h1]
      rw [get?_nat,get?_nat,getD_get (l:=b) (by omega),getD_get hj]
      simp only [ZmD]
      rw [e4']
      simp only [ZmD]
      rw [set?_nat (by omega)]
      simp only [ZmD]
      rw [Zb (by omega) (by omega)]
      unfold selF
      simp only [h2]
      rfl
     ·simp only [cond_true] at h1
      simp only [Znl,hin _ h1,ZmF,ZmQ]
      rw [get?_nat,get?_nat,getD_get (l:=b) (by omega),getD_get hj]
      simp only [ZmD]
      rw [e4']
      simp only [ZmD]
      rw [set?_nat (by omega)]
      simp only [ZmD]
      rw [Zb (by omega) (by omega)]
      unfold selF
      simp only [h2]
      rfl) (fun L mm=>by
    simp only
    rw [ZmI (by rw [Za,Xw,g.len]; simp)]) hr
  simp only [Zpa,hsh,ZmD] at h3
  refine ⟨_,?_,m3,rfl,r3⟩
  rw [h3]
  simp only [ZmD]
  rw [Zb (by omega) (by omega)]
  rfl
 ·obtain ⟨m1, rfl, hr⟩ := ht
  refine ⟨_,?_,m1,rfl,hr⟩
  have hp:¬ 2 ^ lg a.length < a.length:=by rw [Zgp _ (by omega) _ (by omega)]; omega
  have hsh:shl? 1 (IntKind.u64.wrap ((lg a.length:Nat):Int)) = some ((2 ^ lg a.length:Nat):Int):=by rw [u64k (by omega),ZiO _ (by omega)]
  have hkl:decide (((lg a.length:Nat):Int) < len a) = true:=by rw [Za]; simp; omega
  have hpl:decide (((2 ^ lg a.length:Nat):Int) < len a) = false:=by rw [Za,decide_eq_false_iff_not]; exact fun h=>hp (Int.ofNat_lt.1 h)
  simp only [hkl,Znl,hsh,ZmD,hpl,Zp6,ZmF,ZmQ]
 ·obtain ⟨m1, rfl, hr⟩ := hr
  have gf:=Zd8 hab hl ha hb hf hs hw (L:=L)
  simp only
  rw [show len (shK s a b L fill (lg a.length)).1 = len a by rw [Za,Za,gl.len]]
  rw [ZmJ (by rw [Za]; simp; omega)]
  obtain ⟨m2,h2,r2⟩:=Zfz (fuel:=fuel) (f:=orF) (l:=b.drop (lg a.length)) (s:=(shK s a b L fill (lg a.length)).2) (c:=-1) (B:=(fun (s3:Int × Int × Int × Bool × (List D.Gate) × (List (D.Gate × Int)))=>
    if (decide (s3.1 < (len a))) then
     (get? b s3.1).bind fun x25=>
     (Z0 (D.builder.mk (D.Circuit.mk s3.2.2.1 s3.2.2.2.2.1) s3.2.2.2.2.2 s3.2.2.2.1) s3.2.1 x25).bind fun x26=>
     some (.inl ((w64 (s3.1 + 1)),x26.1,x26.2.c.Inputs,x26.2.full,x26.2.c.Gates,x26.2.line))
    else
     some (.inr (s3.2.1,s3.2.2.1,s3.2.2.2.1,s3.2.2.2.2.1,s3.2.2.2.2.2)))) (fun j c m=>(((lg a.length + j:Nat):Int),c,m.c.Inputs,m.full,m.c.Gates,m.line)) (fun c m=>(c,m.c.Inputs,m.full,m.c.Gates,m.line)) gl.circ (YS gl.circ) (by rw [Znh]; omega) (Zie hb gl _) (fun j c mm s' x hx hc hgr hrr hlc=>by
    have hj:lg a.length + j < b.length ∧ b[lg a.length + j]? = some x:=by
     rw [ZnD] at hx
     exact ⟨(ZmG.1 hx).1,hx⟩
    obtain ⟨m4,e4,r4⟩:=Zeo hc hlc (litN_mono (hb _ (ZmM hj.2)) (gl.grow.trans hgr).lines) mm hrr
    have e4':Z0 (D.builder.mk (D.Circuit.mk mm.c.Inputs mm.c.Gates) mm.line mm.full) c x = _:=e4
    refine ⟨m4,?_,r4⟩
    simp only
    rw [ZmJ (by rw [Za]; simp; omega),get?_nat,hj.2]
    simp only [ZmD]
    rw [e4']
    simp only [ZmD]
    rw [Zb (by omega) (by omega)]
    rfl) (fun c mm=>by
    simp only
    rw [ZmI (by rw [Za,Znh]; simp; omega)]) hr
  simp only [Zo0] at h2
  rw [h2]
  simp only [ZmD]
  obtain ⟨m3,h3,r3⟩:=ZdR (fuel:=fuel) (f:=finF (shFar s a b L fill).1 fill) (s:=(shFar s a b L fill).2) (l:=(shK s a b L fill (lg a.length)).1) (L0:=(shK s a b L fill (lg a.length)).1) (B:=(fun (s4:Int × (List Int) × Int × Bool × (List D.Gate) × (List (D.Gate × Int)))=>
    if (decide (s4.1 < (len a))) then
     (get? s4.2.1 s4.1).bind fun x27=>
     (Zc (D.builder.mk (D.Circuit.mk s4.2.2.1 s4.2.2.2.2.1) s4.2.2.2.2.2 s4.2.2.2.1) (shFar s a b L fill).1 fill x27).bind fun x28=>
     (set? s4.2.1 s4.1 x28.1).bind fun x29=>
     some (.inl ((w64 (s4.1 + 1)),x29,x28.2.c.Inputs,x28.2.full,x28.2.c.Gates,x28.2.line))
    else
     some (.inr (s4.2.1,s4.2.2.1,s4.2.2.2.1,s4.2.2.2.2.1,s4.2.2.2.2.2)))) (fun j L m=>((j:Int),L,m.c.Inputs,m.full,m.c.Gates,m.line)) (fun L m=>(L,m.c.Inputs,m.full,m.c.Gates,m.line)) gf.circ (by rw [gl.len]; omega) (fin_ok hab hl ha hb hf hs hw) rfl (fun j Lj mm s' x hx hc hgr hrr hLl hpre=>by
    have hj:j < a.length:=by
     have:=(ZmG.1 hx).1
     rw [gl.len] at this; exact this
    rw [gl.len] at hLl
    obtain ⟨m4,e4,r4⟩:=impl_if hc (c:=(shFar s a b L fill).1) (a:=fill) (b:=x) (litN_mono gf.lit hgr.lines) (litN_mono hf ((gl.grow.trans gf.grow).trans hgr).lines) (litN_mono (gl.lits _ (ZmM hx)) (gf.grow.trans hgr).lines) mm hrr
    have e4':Zc (D.builder.mk (D.Circuit.mk mm.c.Inputs mm.c.Gates) mm.line mm.full) (shFar s a b L fill).1 fill x = _:=e4
    refine ⟨m4,?_,r4⟩
    simp only
    rw [ZmJ (by rw [Za]; simp; omega),get?_nat,hpre j (ZmY _),hx]
    simp only [ZmD]
    rw [e4']
    simp only [ZmD]
    rw [set?_nat (by omega)]
    simp only [ZmD]
    rw [Zb (by omega) (by omega)]
    rfl) (fun L mm=>by
    simp only
    rw [ZmI (by rw [Za,gl.len]; simp)]) r2
  simp only [Zpa] at h3
  have hfar:accP orF (shK s a b L fill (lg a.length)).2 (-1) (b.drop (lg a.length)) = shFar s a b L fill:=rfl
  rw [hfar]
  rw [h3]
  exact ⟨_,rfl,m3,rfl,r3⟩
end
end Go.Proofs.YtgpcokpcbjloiaaGreat.Cc
end
section
namespace Go.Proofs.YtgpcokpcbjloiaaGreat.Cc
open Go.GL
variable {fuel:Nat} [FU fuel]
def andF2:BS → Int × Int → Int × BS:=fun s p=>andP s p.1 p.2
def orF2:BS → Int × Int → Int × BS:=fun s p=>orP s p.1 p.2
def xorF2:BS → Int × Int → Int × BS:=fun s p=>xorP s p.1 p.2
def eqF:BS → Int → Int × Int → Int × BS:=fun s c p=>andP (xorP s p.1 p.2).2 c (-(xorP s p.1 p.2).1)
def flipP (l:List Int):List Int:=l.set (l.length - 1) (-(l.getD (l.length - 1) 0))
theorem Zah (l:List Int):(flipP l).length = l.length:=by simp [flipP]
theorem Zaz {n:Int} {l:List Int} (hl:1 ≤ l.length) (h:∀ x ∈ l,litN n x = true):∀ x ∈ flipP l,litN n x = true:=by
 intro x hx
 rcases Zpj hx with hx | rfl
 ·exact h x hx
 ·rw [ZQ]; exact h _ (getD_mem (by omega))
def lessP (s:BS) (a b:List Int):LS:=let r:=addP s a (negs b) 1; ([-r.2.1],r.2.2)
def equalP (s:BS) (a b:List Int):LS:=let r:=accP eqF s 1 (a.zip b); ([r.1],r.2)
def opP (s:BS) (op:Int) (a b:List Int):LS:=
 if op = 3 then ((addP s a b (-1)).1,(addP s a b (-1)).2.2)
 else if op = 4 then ((addP s a (negs b) 1).1,(addP s a (negs b) 1).2.2)
 else if op = 5 then mulK s a b a.length
 else if op = 6 then ((divK s a b a.length).2.1,(divK s a b a.length).2.2)
 else if op = 7 then ((divK s a b a.length).1,(divK s a b a.length).2.2)
 else if op = 8 then seqP andF2 s (a.zip b)
 else if op = 9 then seqP orF2 s (a.zip b)
 else if op = 10 then seqP xorF2 s (a.zip b)
 else if op = 11 then shP s a b true (-1)
 else if op = 12 then shP s a b false (-1)
 else if op = 13 then shP s a b false (a.getD (a.length - 1) 0)
 else if op = 14 then equalP s a b
 else if op = 15 then lessP s a b
 else lessP s (flipP a) (flipP b)
theorem Ze3 {op:Int} (h:3 ≤ op ∧ op ≤ 16):op = 3 ∨ op = 4 ∨ op = 5 ∨ op = 6 ∨ op = 7 ∨ op = 8 ∨ op = 9 ∨ op = 10 ∨ op = 11 ∨ op = 12 ∨ op = 13 ∨ op = 14 ∨ op = 15 ∨ op = 16:=by omega
theorem ZbL {l:List Int} (h:1 ≤ l.length) (h2:l.length ≤ 1000):get? l (w64 (len l - 1)) = some (l.getD (l.length - 1) 0):=by
 rw [Za,Zb (by omega) (by omega),show (l.length:Int) - 1 = ((l.length - 1:Nat):Int) by omega,get?_nat,getD_get (by omega)]
theorem ZeJ {l:List Int} {x:Int} (h:1 ≤ l.length) (h2:l.length ≤ 1000):set? l (w64 (len l - 1)) x = some (l.set (l.length - 1) x):=by
 rw [Za,Zb (by omega) (by omega),show (l.length:Int) - 1 = ((l.length - 1:Nat):Int) by omega,set?_nat (by omega)]
theorem ZfB {n:Int} {l:List Int} (hn:n ≤ 391) (h:1 ≤ l.length) (h2:l.length ≤ 1000) (hl:∀ x ∈ l,litN n x = true):Ym l = some (flipP l):=by
 unfold Ym
 rw [Zek h2]
 simp only [ZmD]
 rw [ZbL h h2]
 simp only [ZmD]
 rw [Yc (hl _ (getD_mem (by omega))) hn,ZeJ h h2]
 rfl
theorem ZfK {n:Int} {l:List Int} (hn:n ≤ 391) (h:1 ≤ l.length) (h2:l.length ≤ 1000) (hl:∀ x ∈ l,litN n x = true):Y2 l = some (flipP l):=by
 unfold Y2 Ze
 rw [Zek h2]
 simp only [ZmD]
 rw [ZbL h h2]
 simp only [ZmD]
 rw [Yc (hl _ (getD_mem (by omega))) hn,ZeJ h h2]
 rfl
section
variable {s:BS} {a b:List Int} (ha:∀ x ∈ a,litN (lines s.1) x = true) (hb:∀ x ∈ b,litN (lines s.1) x = true)
include ha hb
theorem X3 {s':BS} (hg:Grow s.1 s'.1) {p:Int × Int} (hp:p ∈ a.zip b):litN (lines s'.1) p.1 = true ∧ litN (lines s'.1) p.2 = true:=by
 have:=Zpz hp
 exact ⟨litN_mono (ha _ this.1) hg.lines,litN_mono (hb _ this.2) hg.lines⟩
theorem ZeC:FOk andF2 s (a.zip b):=fun s' p hc hg hp=>have h:=X3 ha hb (s':=s') hg hp; Y5 hc h.1 h.2
theorem Zgj:FOk orF2 s (a.zip b):=fun s' p hc hg hp=>have h:=X3 ha hb (s':=s') hg hp; Zel hc h.1 h.2
theorem Ze2:FOk xorF2 s (a.zip b):=fun s' p hc hg hp=>have h:=X3 ha hb (s':=s') hg hp; XX hc h.1 h.2
theorem Zib:AOk eqF s (a.zip b):=fun s' c p hc hg hl hp=>by
 have h:=X3 ha hb (s':=s') hg hp
 have g1:=XX hc h.1 h.2
 have g2:=Y5 g1.circ (a:=c) (b:=-(xorP s' p.1 p.2).1) (litN_mono hl g1.grow.lines) (by rw [ZQ]; exact g1.lit)
 exact ⟨g2.circ,g1.grow.trans g2.grow,g2.lit⟩
end
section
variable {s:BS} (hs:CircP s.1) {a b:List Int} (hab:a.length = b.length) (hl:a.length ≤ 15) (ha:∀ x ∈ a,litN (lines s.1) x = true) (hb:∀ x ∈ b,litN (lines s.1) x = true)
include hs hab hl
theorem ZdB {f:BS → Int × Int → Int × BS} (hf:FOk f s (a.zip b)) {G:D.l04Net → Int → Int → Option (Int × D.l04Net)}
  (hG:∀ (s':BS) (p:Int × Int),CircP s'.1 → Grow s.1 s'.1 → p ∈ a.zip b → G (net s') p.1 p.2 = some ((f s' p).1,net (f s' p).2)) :
  iterN (fun (s1:Int × (List Int) × Int × Bool × (List D.Gate))=>
   if (decide (s1.1 < (len a))) then
    (get? a s1.1).bind fun x7=>
    (get? b s1.1).bind fun x8=>
    (G (D.l04Net.mk (D.Circuit.mk s1.2.2.1 s1.2.2.2.2) s1.2.2.2.1) x7 x8).bind fun x9=>
    (app? s1.2.1 ([x9.1]:List Int)).bind fun x10=>
    some (.inl ((w64 (s1.1 + 1)),x10,x9.2.c.Inputs,x9.2.full,x9.2.c.Gates))
   else
    some (.inr (s1.2.1,s1.2.2.1,s1.2.2.2.1,s1.2.2.2.2))) fuel (0,([]:List Int),s.1.Inputs,s.2,s.1.Gates) = some ((seqP f s (a.zip b)).1,(seqP f s (a.zip b)).2.1.Inputs,(seqP f s (a.zip b)).2.2,(seqP f s (a.zip b)).2.1.Gates):=by
 have hzl:(a.zip b).length = a.length:=by rw [ZnQ]; omega
 refine spec_seq hs (by rw [hzl]; omega) hf (fun j out s' x hx hc hgr hout=>?_) (fun out s'=>?_)
 ·have hj:j < a.length:=by
   have:=(ZmG.1 hx).1
   rw [hzl] at this; exact this
  have hz:=zip_mem hx
  simp only
  rw [ZmJ (by rw [Za]; simp; omega),get?_nat,get?_nat,hz.1,hz.2]
  simp only [ZmD]
  have e:=hG s' x hc hgr (ZmM hx)
  have e':G (D.l04Net.mk (D.Circuit.mk s'.1.Inputs s'.1.Gates) s'.2) x.1 x.2 = _:=e
  rw [e']
  simp only [ZmD]
  rw [Zbl (by simp; omega)]
  simp only [ZmD]
  rw [Zb (by omega) (by omega)]
  rfl
 ·simp only
  rw [ZmI (by rw [Za,hzl]; simp)]
theorem ZdD {f:BS → Int × Int → Int × BS} (hf:FOk f s (a.zip b)) {G:D.builder → Int → Int → Option (Int × D.builder)}
  (hG:∀ (s':BS) (p:Int × Int),CircP s'.1 → Grow s.1 s'.1 → p ∈ a.zip b → ∀ m,RelB m s' → ∃ m',G m p.1 p.2 = some ((f s' p).1,m') ∧ RelB m' (f s' p).2) {m:D.builder} (hm:RelB m s) :
  ∃ m',iterN (fun (s1:Int × (List Int) × Int × Bool × (List D.Gate) × (List (D.Gate × Int)))=>
   if (decide (s1.1 < (len a))) then
    (get? a s1.1).bind fun x14=>
    (get? b s1.1).bind fun x15=>
    (G (D.builder.mk (D.Circuit.mk s1.2.2.1 s1.2.2.2.2.1) s1.2.2.2.2.2 s1.2.2.2.1) x14 x15).bind fun x16=>
    (set? s1.2.1 s1.1 x16.1).bind fun x17=>
    some (.inl ((w64 (s1.1 + 1)),x17,x16.2.c.Inputs,x16.2.full,x16.2.c.Gates,x16.2.line))
   else
    some (.inr (s1.2.1,s1.2.2.1,s1.2.2.2.1,s1.2.2.2.2.1,s1.2.2.2.2.2))) fuel (0,List.replicate a.length (0:Int),m.c.Inputs,m.full,m.c.Gates,m.line) = some ((seqP f s (a.zip b)).1,m'.c.Inputs,m'.full,m'.c.Gates,m'.line) ∧ RelB m' (seqP f s (a.zip b)).2:=by
 have hzl:(a.zip b).length = a.length:=by rw [ZnQ]; omega
 refine impl_seq hs (by rw [hzl]; omega) hf (by rw [hzl]; simp) (fun j L mm s' x hx hc hgr hrr hLl hpre=>?_) (fun L mm=>?_) hm
 ·have hj:j < a.length:=by
   have:=(ZmG.1 hx).1
   rw [hzl] at this; exact this
  rw [hzl] at hLl
  have hz:=zip_mem hx
  obtain ⟨m4,e4,r4⟩:=hG s' x hc hgr (ZmM hx) mm hrr
  have e4':G (D.builder.mk (D.Circuit.mk mm.c.Inputs mm.c.Gates) mm.line mm.full) x.1 x.2 = _:=e4
  refine ⟨m4,?_,r4⟩
  simp only
  rw [ZmJ (by rw [Za]; simp; omega),get?_nat,get?_nat,hz.1,hz.2]
  simp only [ZmD]
  rw [e4']
  simp only [ZmD]
  rw [set?_nat (by omega)]
  simp only [ZmD]
  rw [Zb (by omega) (by omega)]
  rfl
 ·simp only
  rw [ZmI (by rw [Za,hzl]; simp)]
include ha hb
theorem ZlI:iterN (fun (s2:Int × Int × Int × Bool × (List D.Gate))=>
   if (decide (s2.2.1 < (len a))) then
    (get? a s2.2.1).bind fun x20=>
    (get? b s2.2.1).bind fun x21=>
    (Zn fuel (D.l04Net.mk (D.Circuit.mk s2.2.2.1 s2.2.2.2.2) s2.2.2.2.1) x20 x21).bind fun x22=>
    (Zk fuel x22.2 s2.1 (w64 (0 - x22.1))).bind fun x23=>
    some (.inl (x23.1,(w64 (s2.2.1 + 1)),x23.2.c.Inputs,x23.2.full,x23.2.c.Gates))
   else
    some (.inr (s2.1,s2.2.2.1,s2.2.2.2.1,s2.2.2.2.2))) fuel (1,0,s.1.Inputs,s.2,s.1.Gates) = some ((accP eqF s 1 (a.zip b)).1,(accP eqF s 1 (a.zip b)).2.1.Inputs,(accP eqF s 1 (a.zip b)).2.2,(accP eqF s 1 (a.zip b)).2.1.Gates):=by
 have hzl:(a.zip b).length = a.length:=by rw [ZnQ]; omega
 refine ZfI (f:=eqF) (s:=s) (c:=1) (l:=a.zip b) (fun j c s'=>(c,(j:Int),s'.1.Inputs,s'.2,s'.1.Gates)) (fun c s'=>(c,s'.1.Inputs,s'.2,s'.1.Gates)) hs (ZaX hs) (Zib ha hb) (fun j c s' x hx hc hgr hlc=>?_) (fun c s'=>?_) (lt_fuel (by rw [hzl]; omega))
 ·have hj:j < a.length:=by
   have:=(ZmG.1 hx).1
   rw [hzl] at this; exact this
  have hz:=zip_mem hx
  have hxl:=X3 ha hb (s':=s') hgr (ZmM hx)
  have g1:=XX hc hxl.1 hxl.2
  simp only
  rw [ZmJ (by rw [Za]; simp; omega),get?_nat,get?_nat,hz.1,hz.2]
  simp only [ZmD]
  have e1:Zn fuel (D.l04Net.mk (D.Circuit.mk s'.1.Inputs s'.1.Gates) s'.2) x.1 x.2 = _:=ZcY (fuel:=fuel) hc hxl.1 hxl.2
  rw [e1]
  simp only [ZmD]
  have e2:=ZaC (fuel:=fuel) g1.circ (a:=c) (b:=-(xorP s' x.1 x.2).1) (litN_mono hlc g1.grow.lines) (by rw [ZQ]; exact g1.lit)
  rw [Yc g1.lit g1.circ.lines1,e2]
  simp only [ZmD]
  rw [Zb (by omega) (by omega)]
  rfl
 ·simp only
  rw [ZmI (by rw [Za,hzl]; simp)]
theorem Zlw {m:D.builder} (hm:RelB m s):∃ m',Y8 fuel m a b = some ((accP eqF s 1 (a.zip b)).1,m') ∧ RelB m' (accP eqF s 1 (a.zip b)).2:=by
 have hzl:(a.zip b).length = a.length:=by rw [ZnQ]; omega
 unfold Y8
 obtain ⟨m2,h2,r2⟩:=Zfz (fuel:=fuel) (f:=eqF) (l:=a.zip b) (s:=s) (c:=1) (B:=fun (s1:Int × Int × Int × Bool × (List D.Gate) × (List (D.Gate × Int)))=>
  if (decide (s1.2.1 < (len a))) then
   (get? a s1.2.1).bind fun x1=>
   (get? b s1.2.1).bind fun x2=>
   (Z5 (D.builder.mk (D.Circuit.mk s1.2.2.1 s1.2.2.2.2.1) s1.2.2.2.2.2 s1.2.2.2.1) x1 x2).bind fun x3=>
   (Zm x3.2 s1.1 (w64 (0 - x3.1))).bind fun x4=>
   some (.inl (x4.1,(w64 (s1.2.1 + 1)),x4.2.c.Inputs,x4.2.full,x4.2.c.Gates,x4.2.line))
  else
   some (.inr (s1.1,s1.2.2.1,s1.2.2.2.1,s1.2.2.2.2.1,s1.2.2.2.2.2))) (fun j c m=>(c,(j:Int),m.c.Inputs,m.full,m.c.Gates,m.line)) (fun c m=>(c,m.c.Inputs,m.full,m.c.Gates,m.line)) hs (ZaX hs) (by rw [hzl]; omega) (Zib ha hb) (fun j c mm s' x hx hc hgr hrr hlc=>by
   have hj:j < a.length:=by
    have:=(ZmG.1 hx).1
    rw [hzl] at this; exact this
   have hz:=zip_mem hx
   have hxl:=X3 ha hb (s':=s') hgr (ZmM hx)
   have g1:=XX hc hxl.1 hxl.2
   obtain ⟨m3,e3,r3⟩:=Zdv hc hxl.1 hxl.2 mm hrr
   obtain ⟨m4,e4,r4⟩:=ZaD r3 g1.circ (a:=c) (b:=-(xorP s' x.1 x.2).1) (litN_mono hlc g1.grow.lines) (by rw [ZQ]; exact g1.lit)
   refine ⟨m4,?_,r4⟩
   simp only
   rw [ZmJ (by rw [Za]; simp; omega),get?_nat,get?_nat,hz.1,hz.2]
   simp only [ZmD]
   have e3':Z5 (D.builder.mk (D.Circuit.mk mm.c.Inputs mm.c.Gates) mm.line mm.full) x.1 x.2 = _:=e3
   rw [e3']
   simp only [ZmD]
   rw [Yc g1.lit g1.circ.lines1,e4]
   simp only [ZmD]
   rw [Zb (by omega) (by omega)]
   rfl) (fun c mm=>by
   simp only
   rw [ZmI (by rw [Za,hzl]; simp)]) hm
 simp only [Zpa] at h2
 rw [h2]
 exact ⟨m2,rfl,r2⟩
theorem Zf0:Z6 fuel (net s) a b = some (-(addP s a (negs b) 1).2.1,net (addP s a (negs b) 1).2.2):=by
 have hnl:=negs_lits hb
 have ga:=XP hs (by rw [negs_len]; exact hab) ha hnl (ZaX hs)
 unfold Z6
 rw [spec_not hs.lines1 (by omega) hb]
 simp only [ZmD]
 rw [Zcl hs (by omega) (by rw [negs_len]; exact hab) ha hnl (ZaX hs)]
 simp only [ZmD]
 rw [Yc ga.lit ga.circ.lines1]
theorem Zf4 {m:D.builder} (hm:RelB m s):∃ m',Yj fuel m a b = some (-(addP s a (negs b) 1).2.1,m') ∧ RelB m' (addP s a (negs b) 1).2.2:=by
 have hnl:=negs_lits hb
 have ga:=XP hs (by rw [negs_len]; exact hab) ha hnl (ZaX hs)
 obtain ⟨m2,h2,r2⟩:=Zcw (fuel:=fuel) hs hm (by omega) (by rw [negs_len]; exact hab) ha hnl (ZaX hs)
 unfold Yj
 rw [impl_opp hs.lines1 (by omega) hb]
 simp only [ZmD]
 rw [h2]
 simp only [ZmD]
 rw [Yc ga.lit ga.circ.lines1]
 exact ⟨m2,rfl,r2⟩
end
end Go.Proofs.YtgpcokpcbjloiaaGreat.Cc
end
section
namespace Go.Proofs.YtgpcokpcbjloiaaGreat.Cc
open Go.GL
variable {fuel:Nat} [FU fuel]
section
variable {s:BS} (hs:CircP s.1) {op:Int} {a b:List Int} (ho:3 ≤ op ∧ op ≤ 16) (hab:a.length = b.length) (hl:a.length ≤ 15) (hw:1 ≤ a.length) (ha:∀ x ∈ a,litN (lines s.1) x = true) (hb:∀ x ∈ b,litN (lines s.1) x = true)
include hs ho hab hl hw ha hb
def opW (op:Int) (n:Nat):Nat:=if 14 ≤ op then 1 else n
theorem op_good:GoodL s (opW op a.length) (opP s op a b):=by
 have hnl:=negs_lits hb
 have hzl:(a.zip b).length = a.length:=by rw [ZnQ]; omega
 have hla:litN (lines s.1) (a.getD (a.length - 1) 0) = true:=ha _ (getD_mem (by omega))
 have one:∀ {x:Int} {t:BS},litN (lines t.1) x = true → ∀ y ∈ [x],litN (lines t.1) y = true:=fun h y hy=>by simp only [Znm] at hy; subst hy; exact h
 have less:∀ {u v:List Int},u.length = v.length → (∀ x ∈ u,litN (lines s.1) x = true) → (∀ x ∈ v,litN (lines s.1) x = true) → GoodL s 1 (lessP s u v):=fun huv hu hv=>by
  have g:=XP hs (by rw [negs_len]; exact huv) hu (negs_lits hv) (ZaX hs)
  exact ⟨g.circ,g.grow,rfl,one (by rw [ZQ]; exact g.lit)⟩
 rcases Ze3 ho with rfl | rfl | rfl | rfl | rfl | rfl | rfl | rfl | rfl | rfl | rfl | rfl | rfl | rfl
 ·have g := XP hs hab ha hb (YS hs)
  exact ⟨g.circ,g.grow,g.len,g.lits⟩
 ·have g := XP hs (by rw [negs_len]; exact hab) ha hnl (ZaX hs)
  exact ⟨g.circ,g.grow,g.len,g.lits⟩
 ·exact ZdF hs hab ha hb a.length (ZmY _)
 ·have g := Zc6 hab ha hb hs a.length (ZmY _)
  exact ⟨g.circ,g.grow,g.clen,g.clits⟩
 ·have g := Zc6 hab ha hb hs a.length (ZmY _)
  exact ⟨g.circ,g.grow,g.len,g.lits⟩
 ·have g := seq_good hs (ZeC ha hb)
  exact ⟨g.circ,g.grow,g.len.trans hzl,g.lits⟩
 ·have g := seq_good hs (Zgj ha hb)
  exact ⟨g.circ,g.grow,g.len.trans hzl,g.lits⟩
 ·have g := seq_good hs (Ze2 ha hb)
  exact ⟨g.circ,g.grow,g.len.trans hzl,g.lits⟩
 ·exact Ze8 hab hl ha hb (YS hs) hs hw (L:=true)
 ·exact Ze8 hab hl ha hb (YS hs) hs hw (L:=false)
 ·exact Ze8 hab hl ha hb hla hs hw (L:=false)
 ·have g := Zho hs (ZaX hs) (Zib ha hb)
  exact ⟨g.circ,g.grow,rfl,one g.lit⟩
 ·exact less hab ha hb
 ·exact less (by rw [Zah,Zah]; exact hab) (Zaz (by omega) ha) (Zaz (by omega) hb)
theorem spec_op:ZT fuel (net s) op a b = some ((opP s op a b).1,net (opP s op a b).2):=by
 have hnl:=negs_lits hb
 have hla:litN (lines s.1) (a.getD (a.length - 1) 0) = true:=ha _ (getD_mem (by omega))
 rcases Ze3 ho with rfl | rfl | rfl | rfl | rfl | rfl | rfl | rfl | rfl | rfl | rfl | rfl | rfl | rfl
 all_goals unfold ZT opP
 all_goals simp only [Int.reduceBEq,Int.reduceEq,Zol,ZoI,Zoq,ZmF,Znl,ZmQ]
 ·rw [Zcl hs (by omega) hab ha hb (YS hs)]; rfl
 ·rw [spec_not hs.lines1 (by omega) hb]
  simp only [ZmD]
  rw [Zcl hs (by omega) (by rw [negs_len]; exact hab) ha hnl (ZaX hs)]; rfl
 ·rw [Zlr hs hab (by omega) ha hb]; rfl
 ·rw [ZgZ hs hab (by omega) ha hb]; rfl
 ·rw [ZgZ hs hab (by omega) ha hb]; rfl
 ·have h := ZdB (fuel := fuel) hs hab hl (ZeC ha hb) (G := Zk fuel) (fun s' p hc hg hp => have h := X3 ha hb (s' := s') hg hp; ZaC hc h.1 h.2)
  rw [h]; rfl
 ·have h := ZdB (fuel := fuel) hs hab hl (Zgj ha hb) (G := Zq fuel) (fun s' p hc hg hp => have h := X3 ha hb (s' := s') hg hp; Zej hc h.1 h.2)
  rw [h]; rfl
 ·have h := ZdB (fuel := fuel) hs hab hl (Ze2 ha hb) (G := Zn fuel) (fun s' p hc hg hp => have h := X3 ha hb (s' := s') hg hp; ZcY hc h.1 h.2)
  rw [h]; rfl
 ·have h := Zcq (fuel := fuel) hs hab hl hw ha hb (YS hs) (op := 11)
  unfold ZK
  rw [ZmI (by decide),h]; rfl
 ·have h := Zcq (fuel := fuel) hs hab hl hw ha hb (YS hs) (op := 12)
  unfold ZK
  rw [ZmI (by decide),h]; rfl
 ·have h := Zcq (fuel := fuel) hs hab hl hw ha hb hla (op := 13)
  unfold ZK
  rw [ZmJ (by decide),ZbL hw (by omega)]
  simp only [ZmD]
  rw [h]; rfl
 ·have h := ZlI (fuel := fuel) hs hab hl ha hb
  rw [h]; rfl
 ·rw [Zf0 hs hab hl ha hb]; rfl
 ·rw [ZfB hs.lines1 hw (by omega) ha, ZfB hs.lines1 (by omega) (by omega) hb]
  simp only [ZmD]
  rw [Zf0 hs (by rw [Zah,Zah]; exact hab) (by rw [Zah]; exact hl) (Zaz (by omega) ha) (Zaz (by omega) hb)]; rfl
theorem impl_op {m:D.builder} (hm:RelB m s):∃ m',ZF fuel m op a b = some ((opP s op a b).1,m') ∧ RelB m' (opP s op a b).2:=by
 have hnl:=negs_lits hb
 have hla:litN (lines s.1) (a.getD (a.length - 1) 0) = true:=ha _ (getD_mem (by omega))
 rcases Ze3 ho with rfl | rfl | rfl | rfl | rfl | rfl | rfl | rfl | rfl | rfl | rfl | rfl | rfl | rfl
 all_goals unfold ZF opP
 all_goals simp only [Int.reduceBEq,Int.reduceEq,Zol,ZoI,Zoq,ZmF,Znl,ZmQ]
 ·obtain ⟨m1, h1, r1⟩ := Zcw (fuel := fuel) hs hm (by omega) hab ha hb (YS hs)
  rw [h1]; exact ⟨m1,rfl,r1⟩
 ·rw [impl_opp hs.lines1 (by omega) hb]
  simp only [ZmD]
  obtain ⟨m1,h1,r1⟩:=Zcw (fuel:=fuel) hs hm (by omega) (by rw [negs_len]; exact hab) ha hnl (ZaX hs)
  rw [h1]; exact ⟨m1,rfl,r1⟩
 ·obtain ⟨m1, h1, r1⟩ := Zka (fuel := fuel) hs hab (by omega) ha hb hm
  rw [h1]; exact ⟨m1,rfl,r1⟩
 ·obtain ⟨m1, h1, r1⟩ := Zhu (fuel := fuel) hs hab (by omega) ha hb hm
  rw [h1]; exact ⟨m1,rfl,r1⟩
 ·obtain ⟨m1, h1, r1⟩ := Zhu (fuel := fuel) hs hab (by omega) ha hb hm
  rw [h1]; exact ⟨m1,rfl,r1⟩
 ·obtain ⟨m1, h1, r1⟩ := ZdD (fuel := fuel) hs hab hl (ZeC ha hb) (G := Zm) (fun s' p hc hg hp m hm => have h := X3 ha hb (s' := s') hg hp; ZaD hm hc h.1 h.2) hm
  rw [mk?_len (by unfold room; omega)]
  simp only [ZmD]
  rw [h1]; exact ⟨m1,rfl,r1⟩
 ·obtain ⟨m1, h1, r1⟩ := ZdD (fuel := fuel) hs hab hl (Zgj ha hb) (G := Z0) (fun s' p hc hg hp m hm => have h := X3 ha hb (s' := s') hg hp; Zeo hc h.1 h.2 m hm) hm
  rw [mk?_len (by unfold room; omega)]
  simp only [ZmD]
  rw [h1]; exact ⟨m1,rfl,r1⟩
 ·obtain ⟨m1, h1, r1⟩ := ZdD (fuel := fuel) hs hab hl (Ze2 ha hb) (G := Z5) (fun s' p hc hg hp m hm => have h := X3 ha hb (s' := s') hg hp; Zdv hc h.1 h.2 m hm) hm
  rw [mk?_len (by unfold room; omega)]
  simp only [ZmD]
  rw [h1]; exact ⟨m1,rfl,r1⟩
 ·obtain ⟨m1, h1, r1⟩ := Zcd (fuel := fuel) hs hab hl hw ha hb (YS hs) (op := 11) hm
  unfold Yo
  rw [ZmI (by decide),h1]; exact ⟨m1,rfl,r1⟩
 ·obtain ⟨m1, h1, r1⟩ := Zcd (fuel := fuel) hs hab hl hw ha hb (YS hs) (op := 12) hm
  unfold Yo
  rw [ZmI (by decide),h1]; exact ⟨m1,rfl,r1⟩
 ·obtain ⟨m1, h1, r1⟩ := Zcd (fuel := fuel) hs hab hl hw ha hb hla (op := 13) hm
  unfold Yo
  rw [ZmJ (by decide),ZbL hw (by omega)]
  simp only [ZmD]
  rw [h1]; exact ⟨m1,rfl,r1⟩
 ·obtain ⟨m1, h1, r1⟩ := Zlw (fuel := fuel) hs hab hl ha hb hm
  rw [h1]; exact ⟨m1,rfl,r1⟩
 ·obtain ⟨m1, h1, r1⟩ := Zf4 (fuel := fuel) hs hab hl ha hb hm
  rw [h1]; exact ⟨m1,rfl,r1⟩
 ·rw [ZfK hs.lines1 hw (by omega) ha, ZfK hs.lines1 (by omega) (by omega) hb]
  simp only [ZmD]
  obtain ⟨m1,h1,r1⟩:=Zf4 (fuel:=fuel) hs (by rw [Zah,Zah]; exact hab) (by rw [Zah]; exact hl) (Zaz (by omega) ha) (Zaz (by omega) hb) hm
  rw [h1]; exact ⟨m1,rfl,r1⟩
end
end Go.Proofs.YtgpcokpcbjloiaaGreat.Cc
end
section
namespace Go.Proofs.YtgpcokpcbjloiaaGreat
open Go.GL
def fuel:Nat:=4194400
theorem lt_fuel {n:Nat} (h:n ≤ 1048576):n < fuel:=by unfold fuel; omega
theorem Zhr {α:Type} {l:List α} {f:α → Option Bool} {b:α → Bool} (hf:∀ x ∈ l,f x = some (b x)) (hb:l.length ≤ 9223372036854775807):∀ (d i:Nat),i + d = l.length → ∀ n,d < n →
  iterN (fun (s1:Int)=>
   if (decide (s1 < (len l))) then
    (get? l s1).bind fun x1=>
    (f x1).bind fun x2=>
    if (!x2) then
     some (.inr (.inr false))
    else
     some (.inl ((w64 (s1 + 1))))
   else
    some (.inr (.inl ()))) n (i:Int) = some (if (l.drop i).all b then (.inl ():Unit ⊕ Bool) else .inr false)
 | 0,i,hi,n,hn=>by
  obtain ⟨n,rfl⟩ : ∃ j,n = j + 1:=⟨n - 1,by omega⟩
  unfold iterN
  rw [ZmI (by rw [Za]; simp; omega)]
  simp [ZnW (show l.length ≤ i by omega)]
 | d + 1,i,hi,n,hn=>by
  obtain ⟨n,rfl⟩ : ∃ j,n = j + 1:=⟨n - 1,by omega⟩
  have hp:i < l.length:=by omega
  unfold iterN
  rw [ZmJ (by rw [Za]; simp; omega),get?_nat,ZmE hp]
  simp only [ZmD]
  rw [hf _ (Zns hp),Zn6 hp]
  simp only [ZmD,Zpp]
  by_cases h:b l[i] = true
  ·rw [ZmI (by simp [h])]
   simp only
   rw [Zb (by omega) (by omega),show ((i:Int) + 1) = ((i + 1:Nat):Int) by omega,Zhr hf hb d (i + 1) (by omega) n (by omega)]
   simp only [h,Zn1]
  ·rw [ZmJ (by simp [h])]
   simp [h]
theorem ZlT {w:Int} (h1:1 ≤ w) (h2:w ≤ 16):∃ m:Int,shl? 1 w = some m ∧ shl? 1 (IntKind.u64.wrap w) = some m ∧ w64 (m - 1) = m - 1:=by
 have:w = 1 ∨ w = 2 ∨ w = 3 ∨ w = 4 ∨ w = 5 ∨ w = 6 ∨ w = 7 ∨ w = 8 ∨ w = 9 ∨ w = 10 ∨ w = 11 ∨ w = 12 ∨ w = 13 ∨ w = 14 ∨ w = 15 ∨ w = 16:=by omega
 rcases this with rfl | rfl | rfl | rfl | rfl | rfl | rfl | rfl | rfl | rfl | rfl | rfl | rfl | rfl | rfl | rfl <;> exact ⟨_,rfl,by decide,by decide⟩
theorem ZfS (w v:Int):∃ b,Xr w v = some b ∧ Zak w v = some b:=by
 unfold Xr Zak Zg YB
 by_cases h:1 ≤ w ∧ w ≤ 16
 ·obtain ⟨m, h1, h2, h3⟩ := ZlT h.1 h.2
  refine ⟨decide (0 ≤ v) && decide (v < m),?_,?_⟩
  ·simp only [ge_iff_le, h.1, h.2, decide_true, ZpI, ZmD, Znl, h1, h3, Zn1, Option.some.injEq]
   rw [ZnP]
   simp only [ZmK,ZmN]
   omega
  ·by_cases hv : 0 ≤ v
   ·simp [h.1,h.2,hv,h2]
   ·simp [h.1,h.2,hv]
 ·refine ⟨false, ?_, ?_⟩
  ·by_cases a : 1 ≤ w
   ·have b : ¬ w ≤ 16 := fun b => h ⟨a, b⟩
    simp [a,b]
   ·simp [a]
  ·by_cases a : 1 ≤ w
   ·have b : ¬ w ≤ 16 := fun b => h ⟨a, b⟩
    simp [a,b]
   ·simp [a]
theorem Zd6 {c:Bool} {b:Bool}:(if c = true then some b else some default) = some (if c = true then b else default):=by split <;> rfl
def wordB (w v:Int):Bool:=(Xr w v).getD false
theorem ZjG (w v:Int):Xr w v = some (wordB w v):=by
 obtain ⟨b,h,-⟩:=ZfS w v
 simp [wordB,h]
theorem Zjc (w v:Int):Zak w v = some (wordB w v):=by
 obtain ⟨b,h,h'⟩:=ZfS w v
 simp [wordB,h,h']
theorem ZC {σt ρt:Type} {B:σt → Option (σt ⊕ ρt)} {s:σt} {r:ρt} {n:Nat} (h:B s = some (.inr r)) (hn:0 < n):iterN B n s = some r:=by
 obtain ⟨m,rfl⟩ : ∃ m,n = m + 1:=⟨n - 1,by omega⟩
 rw [iterN,h]
theorem ZeX (s:Str):Str.eqb s s = true:=by unfold Str.eqb; simp
theorem Zf8 {S ρ α σ:Type} {l:List α} {B:S → Option (S ⊕ ρ)} (enc:Nat → σ → S) (I:List α → σ → Prop) (R:ρ → Prop)
  (hs:∀ k x xs a,k < l.length → l[k]? = some x → l.length = k + (x :: xs).length → I (x :: xs) a → (∃ a',B (enc k a) = some (.inl (enc (k + 1) a')) ∧ I xs a') ∨ ∃ r,B (enc k a) = some (.inr r) ∧ R r)
  (he:∀ a,I [] a → ∃ r,B (enc l.length a) = some (.inr r) ∧ R r) :
  ∀ (ys:List α) (k:Nat) (a:σ) (n:Nat),l.drop k = ys → k ≤ l.length → I ys a → ys.length < n → ∃ r,iterN B n (enc k a) = some r ∧ R r
 | [],k,a,n,hd,hk,hI,hn=>by
  obtain ⟨n,rfl⟩ : ∃ j,n = j + 1:=⟨n - 1,by omega⟩
  have:k = l.length:=by
   have:=congrArg List.length hd
   simp at this; omega
  subst this
  obtain ⟨r,h1,h2⟩:=he a hI
  exact ⟨r,by unfold iterN; rw [h1],h2⟩
 | x :: xs,k,a,n,hd,hk,hI,hn=>by
  obtain ⟨n,rfl⟩ : ∃ j,n = j + 1:=⟨n - 1,by omega⟩
  have hl:l.length = k + (x :: xs).length:=by
   have:=congrArg List.length hd
   simp at this ⊢; omega
  have hk':k < l.length:=by simp at hl; omega
  have hx:l[k]? = some x:=by
   have h0:(l.drop k)[0]? = some x:=by rw [hd]; rfl
   rw [ZnD] at h0; simpa using h0
  rcases hs k x xs a hk' hx hl hI with ⟨a',h1,h2⟩ | ⟨r,h1,h2⟩
  ·obtain ⟨r, g1, g2⟩ := Zf8 enc I R hs he xs (k + 1) a' n (by rw [← Zp5, hd]; rfl) (by omega) h2 (by simp at hn; omega)
   exact ⟨r,by unfold iterN; rw [h1]; exact g1,g2⟩
  ·exact ⟨r,by unfold iterN; rw [h1],h2⟩
theorem ZZ {S ρ α σ:Type} {l:List α} {B:S → Option (S ⊕ ρ)} (enc:Nat → σ → S) (I:List α → σ → Prop) (R:ρ → Prop)
  (hs:∀ k x xs a,k < l.length → l[k]? = some x → l.length = k + (x :: xs).length → I (x :: xs) a → (∃ a',B (enc k a) = some (.inl (enc (k + 1) a')) ∧ I xs a') ∨ ∃ r,B (enc k a) = some (.inr r) ∧ R r)
  (he:∀ a,I [] a → ∃ r,B (enc l.length a) = some (.inr r) ∧ R r) {a:σ} {n:Nat} (hI:I l a) (hn:l.length < n):∃ r,iterN B n (enc 0 a) = some r ∧ R r:=
 Zf8 enc I R hs he l 0 a n rfl (ZnT _) hI hn
mutual
def msz:D.Term → Nat
 | ⟨_,_,_,s,k⟩=>s.bytes.length + k.length + mszs k
def mszs:List D.Term → Nat
 | []=>0
 | x :: l=>msz x + mszs l
end
theorem Za5 (t:D.Term):msz t = t.Name.bytes.length + t.Kids.length + mszs t.Kids:=by cases t; rw [msz]
theorem Zbg (x:D.Term) (l:List D.Term):mszs (x :: l) = msz x + mszs l:=by rw [mszs]
theorem Zd5:mszs [] = 0:=by rw [mszs]
theorem ZaK {x:D.Term}:∀ {l:List D.Term},x ∈ l → msz x ≤ mszs l
 | y :: l,h=>by
  rw [Zbg]
  rcases Zno.1 h with rfl | h
  ·omega
  ·have:=ZaK h; omega
theorem Zhk (t:D.Term):Xm t ↔ fitInt t.Op ∧ fitInt t.W ∧ fitInt t.N ∧ t.Name.bytes.length ≤ 9223372036854775807 ∧ fitList Xm t.Kids:=by
 cases t; rw [Xm,Zb0]; rfl
theorem szT:∀ n:Nat,(∀ (t:D.Term) (m:Int),Xm t → 0 ≤ m → m ≤ 1048576 → 2 * m + 3 ≤ n → ∃ r,Xe n t m = some r ∧ (r < 0 ∨ 0 ≤ r ∧ r = m - msz t)) ∧
  (∀ (l:List D.Term) (m:Int),fitList Xm l → 0 ≤ m → m ≤ 1048576 → 2 * m + 2 ≤ n → ∃ r,XU n l m = some r ∧ (r < 0 ∨ 0 ≤ r ∧ r = m - l.length - mszs l)):=by
 intro n
 induction n with
 | zero=>exact ⟨fun t m _ _ _ _=>by omega,fun l m _ _ _ _=>by omega⟩
 | succ n ih=>
  refine ⟨fun t m hf h0 h1 hn=>?_,fun l m hf h0 h1 hn=>?_⟩
  ·obtain ⟨-, -, -, hs, hk⟩ := (Zhk t).1 hf
   rw [Za5]
   unfold Xe
   rw [Za,Zb (by omega) (by omega)]
   by_cases c:m - (t.Name.bytes.length:Int) < 0
   ·rw [ZmJ (by simpa using c)]; exact ⟨_,rfl,.inl (by decide)⟩
   ·rw [ZmI (by simpa using c)]
    obtain ⟨r,g1,g2⟩:=ih.2 t.Kids (m - (t.Name.bytes.length:Int)) hk (by omega) (by omega) (by omega)
    rw [g1]
    simp only [ZmD]
    rcases g2 with g2 | ⟨g2,g3⟩
    ·rw [ZmJ (by simpa using g2)]; exact ⟨_,rfl,.inl (by decide)⟩
    ·rw [ZmI (by simpa using g2)]; exact ⟨_,rfl,.inr ⟨g2,by omega⟩⟩
  ·obtain ⟨hl, hk⟩ := hf
   unfold XU
   rw [Za,Zb (by omega) (by omega)]
   by_cases c:m - (l.length:Int) < 0
   ·rw [ZmJ (by simpa using c)]; exact ⟨_,rfl,.inl (by decide)⟩
   ·rw [ZmI (by simpa using c)]
    obtain ⟨r,g1,g2⟩:=ZZ (l:=l) (n:=n) (σ:=Int) (ρ:=Int ⊕ Int) (B:=fun (s1:Int × Int)=>
      if (decide (s1.2 < (l.length:Int))) then
       (get? l s1.2).bind fun x1=>
       (Xe n x1 s1.1).bind fun x2=>
       if (decide (x2 < 0)) then
        some (.inr (.inr (-1)))
       else
        some (.inl (x2,(w64 (s1.2 + 1))))
      else
       some (.inr (.inl (s1.1)))) (fun k (a:Int)=>(a,(k:Int))) (fun ys a=>0 ≤ a ∧ a ≤ m - l.length ∧ a - mszs ys = m - l.length - mszs l ∧ ∀ x ∈ ys,Xm x) (fun r=>r = .inr (-1) ∨ ∃ v,r = .inl v ∧ 0 ≤ v ∧ v = m - l.length - mszs l)
      (fun k x xs a hk' hx hlen ⟨i0, i1, i2, i3⟩ => by
       rw [Zbg] at i2
       simp at hlen
       obtain ⟨r,g1,g2⟩:=ih.1 x a (i3 x (by simp)) i0 (by omega) (by omega)
       simp only [get?_nat,hx,ZmD,g1]
       rw [ZmJ (by simpa using hk')]
       rcases g2 with g2 | ⟨g2,g3⟩
       ·rw [ZmJ (by simpa using g2)]; exact .inr ⟨_,rfl,.inl rfl⟩
       ·rw [ZmI (by simpa using g2)]
        refine .inl ⟨r,by rw [Zb (by omega) (by omega)]; rfl,g2,by omega,by omega,fun y hy=>i3 y (by simp [hy])⟩)
      (fun a ⟨i0, i1, i2, _⟩ => by
       rw [Zd5] at i2
       simp only
       rw [ZmI (by simp)]
       exact ⟨_,rfl,.inr ⟨a,rfl,i0,by omega⟩⟩) (a:=m - l.length) ⟨by omega,by omega,rfl,hk⟩ (by omega)
    rw [show ((0:Nat):Int) = 0 from rfl] at g1
    rw [g1]
    simp only [ZmD]
    rcases g2 with rfl | ⟨v,rfl,g2,g3⟩
    ·exact ⟨_,rfl,.inl (by decide)⟩
    ·exact ⟨_,rfl,.inr ⟨g2,by omega⟩⟩
def sml (l:List D.Term):Prop:=l.length + mszs l ≤ 1048576
theorem toT:∀ n:Nat,(∀ t:D.Term,msz t ≤ 1048576 → 1048580 + 2 * msz t + 1 ≤ n → Y1 n t = some t) ∧ (∀ l:List D.Term,sml l → 1048580 + 2 * (l.length + mszs l) ≤ n → XO n l = some l):=by
 intro n
 induction n with
 | zero=>exact ⟨fun t _ _=>by omega,fun l _ _=>by omega⟩
 | succ n ih=>
  refine ⟨fun t h hn=>?_,fun l h hn=>?_⟩
  ·have := Za5 t
   unfold Y1
   rw [ih.2 t.Kids (by unfold sml; omega) (by omega)]
   cases t; rfl
  ·unfold sml at h
   unfold XO
   rw [mk?_len (by unfold room; omega)]
   simp only [ZmD]
   obtain ⟨r,g1,g2⟩:=ZZ (l:=l) (n:=n) (σ:=List D.Term) (ρ:=List D.Term) (B:=fun (s1:Int × (List D.Term))=>
     if (decide (s1.1 < (len l))) then
      (get? l s1.1).bind fun x2=>
      (Y1 n x2).bind fun x3=>
      (set? s1.2 s1.1 x3).bind fun x4=>
      some (.inl ((w64 (s1.1 + 1)),x4))
     else
      some (.inr (s1.2))) (fun k (a:List D.Term)=>((k:Int),a)) (fun ys a=>(∃ zs:List D.Term,a = l.take (l.length - ys.length) ++ zs ∧ zs.length = ys.length) ∧ ∀ x ∈ ys,x ∈ l) (fun r=>r = l)
     (fun k x xs a hk' hx hlen ⟨⟨zs, hz, hz'⟩, hm⟩ => by
      have hxl:=hm x (by simp)
      have:=ZaK hxl
      simp only [Znc] at hlen hz' hz
      have hpos:0 < l.length:=by omega
      simp only [get?_nat,hx,ZmD,Za]
      rw [ZmJ (by simpa using hk'),ih.1 x (by omega) (by omega)]
      simp only [ZmD]
      obtain ⟨z,zs,rfl⟩ : ∃ z zs',zs = z :: zs':=by cases zs with | nil=>simp at hz' | cons z zs=>exact ⟨_,_,rfl⟩
      have e1:l.length - (xs.length + 1) = k:=by omega
      rw [e1] at hz
      subst hz
      rw [set?_nat (by simp at hz' ⊢; omega)]
      refine .inl ⟨_,by simp only [ZmD]; rw [Zb (by omega) (by omega)]; rfl,⟨zs,?_,by simpa using hz'⟩,fun y hy=>hm y (by simp [hy])⟩
      have e2:l.length - xs.length = k + 1:=by omega
      rw [e2,List.take_add_one,hx]
      have e3:(l.take k).length = k:=by simp; omega
      rw [ZnE _ _ (by omega)]
      simp [e3])
     (fun a ⟨⟨zs, hz, hz'⟩, _⟩ => by
      simp only
      rw [ZmI (by rw [Za]; simp)]
      simp at hz'
      subst hz'
      simp at hz
      exact ⟨_,rfl,hz⟩) (a:=List.replicate l.length _) ⟨⟨_,(by simp; rfl),(by simp)⟩,fun x hx=>hx⟩ (by omega)
   rw [show ((0:Nat):Int) = 0 from rfl] at g1
   rw [g1,g2]
   rfl
theorem eqT:∀ n:Nat,(∀ t:D.Term,msz t ≤ 1048576 → 1048580 + 2 * msz t + 1 ≤ n → Xd n t t = some true) ∧ (∀ l:List D.Term,sml l → 1048580 + 2 * (l.length + mszs l) ≤ n → XQ n l l = some true):=by
 intro n
 induction n with
 | zero=>exact ⟨fun t _ _=>by omega,fun l _ _=>by omega⟩
 | succ n ih=>
  refine ⟨fun t h hn=>?_,fun l h hn=>?_⟩
  ·have := Za5 t
   unfold Xd
   rw [ih.2 t.Kids (by unfold sml; omega) (by omega)]
   simp [ZeX]
  ·unfold sml at h
   unfold XQ
   rw [ZmI (by simp)]
   obtain ⟨r,g1,g2⟩:=ZZ (l:=l) (n:=n) (σ:=Unit) (ρ:=Unit ⊕ Bool) (B:=fun (s1:Int)=>
     if (decide (s1 < (len l))) then
      (get? l s1).bind fun x1=>
      (get? l s1).bind fun x2=>
      (Xd n x1 x2).bind fun x3=>
      if (!x3) then
       some (.inr (.inr false))
      else
       some (.inl ((w64 (s1 + 1))))
     else
      some (.inr (.inl ()))) (fun k (_:Unit)=>(k:Int)) (fun ys _=>∀ x ∈ ys,x ∈ l) (fun r=>r = (.inl ():Unit ⊕ Bool))
     (fun k x xs a hk' hx hlen hm => by
      have hxl:=hm x (by simp)
      have:=ZaK hxl
      have hpos:0 < l.length:=by omega
      simp only [get?_nat,hx,ZmD,Za]
      rw [ZmJ (by simpa using hk'),ih.1 x (by omega) (by omega)]
      refine .inl ⟨(),?_,fun y hy=>hm y (by simp [hy])⟩
      simp only [ZmD]
      rw [ZmI (by simp),Zb (by omega) (by omega)]; rfl)
     (fun a _ => by
      rw [ZmI (by rw [Za]; simp)]
      exact ⟨_,rfl,rfl⟩) (a:=()) (fun x hx=>hx) (by omega)
   rw [show ((0:Nat):Int) = 0 from rfl] at g1
   rw [g1,g2]
   rfl
set_option maxRecDepth 100000
mutual
def cnt:D.Term → Nat
 | ⟨_,_,_,_,k⟩=>1 + cnts k
def cnts:List D.Term → Nat
 | []=>0
 | x :: l=>cnt x + cnts l
end
theorem XV (t:D.Term):cnt t = 1 + cnts t.Kids:=by cases t; rw [cnt]
theorem Zb4 (x:D.Term) (l:List D.Term):cnts (x :: l) = cnt x + cnts l:=by rw [cnts]
theorem Zcp:cnts [] = 0:=by rw [cnts]
theorem XW {x:D.Term}:∀ {l:List D.Term},x ∈ l → cnt x ≤ cnts l
 | y :: l,h=>by
  rw [Zb4]
  rcases Zno.1 h with rfl | h
  ·omega
  ·have:=XW h; omega
def lf (m:Int) (c:Nat):Int:=if m - c < 0 then -1 else m - c
theorem few:∀ (n:Nat) (t:D.Term) (m:Int),msz t ≤ 1048576 → 0 ≤ m → m ≤ 240 → 1048580 + m ≤ n → Xu n t m = some (decide (lf m (cnt t) ≥ 0),lf m (cnt t)):=by
 intro n
 induction n with
 | zero=>intro t m _ _ _ _; omega
 | succ n ih=>
  intro t m hs h0 h1 hn
  have hz:=Za5 t
  unfold Xu
  rw [Zb (by omega) (by omega)]
  obtain ⟨r,g1,g2⟩:=ZZ (l:=t.Kids) (n:=n) (σ:=Int) (ρ:=Int) (B:=fun (s1:Int × Int)=>
    if ((decide (s1.1 < (len t.Kids))) && (decide (s1.2 ≥ 0))) then
     (get? t.Kids s1.1).bind fun x1=>
     (Xu n x1 s1.2).bind fun x2=>
     some (.inl ((w64 (s1.1 + 1)),x2.2))
    else
     some (.inr (s1.2))) (fun k a=>((k:Int),a)) (fun ys a=>-1 ≤ a ∧ a ≤ m - 1 ∧ lf a (cnts ys) = lf (m - 1) (cnts t.Kids) ∧ ∀ x ∈ ys,x ∈ t.Kids) (fun r=>r = lf (m - 1) (cnts t.Kids))
    (fun k x xs a hk' hx hlen ⟨i0, i1, i2, i3⟩ => by
     have:=ZaK (i3 x (by simp))
     rw [Zb4] at i2
     simp only
     by_cases ha:0 ≤ a
     ·refine .inl ⟨lf a (cnt x), ?_, ?_, ?_, ?_, fun y hy => i3 y (by simp [hy])⟩
      ·rw [ZmJ (by rw [Za]; simp; omega), get?_nat, hx]
       simp only [ZmD]
       rw [ih x a (by omega) ha (by omega) (by omega),Zb (by omega) (by omega)]; rfl
      ·unfold lf; split <;> omega
      ·unfold lf; split <;> omega
      ·rw [← i2]; unfold lf; split <;> split <;> split <;> omega
     ·refine .inr ⟨a, by rw [ZmI (by simp; omega)], ?_⟩
      rw [← i2]; unfold lf; split <;> omega)
    (fun a ⟨i0, i1, i2, _⟩ => by
     rw [Zcp] at i2
     simp only
     rw [ZmI (by rw [Za]; simp)]
     refine ⟨_,rfl,?_⟩
     rw [← i2]; unfold lf; split <;> omega) (a:=m - 1) ⟨by omega,by omega,rfl,fun x hx=>hx⟩ (by omega)
  rw [show ((0:Nat):Int) = 0 from rfl] at g1
  rw [g1,g2]
  have e:lf (m - 1) (cnts t.Kids) = lf m (cnt t):=by rw [XV]; unfold lf; split <;> split <;> omega
  simp only [ZmD,e]
def okF (k:Nat):List UInt8 → Bool
 | []=>true
 | b :: l=>(decide (97 ≤ b.toNat ∧ b.toNat ≤ 122) || (decide (k ≠ 0) && decide (48 ≤ b.toNat ∧ b.toNat ≤ 57))) && okF (k + 1) l
theorem Zg1 (k:Nat) (b:UInt8) (l:List UInt8):okF k (b :: l) = ((decide (97 ≤ b.toNat ∧ b.toNat ≤ 122) || (decide (k ≠ 0) && decide (48 ≤ b.toNat ∧ b.toNat ≤ 57))) && okF (k + 1) l):=rfl
def nameB (s:Str):Bool:=okF 0 s.bytes && decide (1 ≤ s.bytes.length ∧ s.bytes.length ≤ 8)
theorem ZgM {s:Str} {k:Nat} {b:UInt8} (h:s.bytes[k]? = some b):sidx? s (k:Int) = some (b.toNat:Int):=by
 unfold sidx?; rw [ZmJ (by omega)]; simp [h]
theorem Zdx (a b c:Int):Zg a b c = some (decide (b ≤ a ∧ a ≤ c)):=by simp [Zg]
theorem Zj0 {n:Nat} {s:Str} (hl:s.bytes.length ≤ 1048576) (hn:s.bytes.length < n):Zam n s = some (nameB s):=by
 unfold Zam
 obtain ⟨r,g1,g2⟩:=ZZ (l:=s.bytes) (n:=n) (σ:=Unit) (ρ:=Unit ⊕ Bool) (B:=fun (s1:Int)=>
  if (decide (s1 < (len s.bytes))) then
   (sidx? s s1).bind fun x1=>
   (Zg (w64 x1) 97 122).bind fun x2=>
   (if (s1 == 0) then some default else (if (!x2) then (sidx? s s1) else some default)).bind fun x3=>
   (if (s1 == 0) then some default else (if (!x2) then (Zg (w64 x3) 48 57) else some default)).bind fun x4=>
   if ((!x2) && ((s1 == 0) || (!x4))) then
    some (.inr (.inr false))
   else
    some (.inl ((w64 (s1 + 1))))
  else
   some (.inr (.inl ()))) (fun k _=>(k:Int)) (fun ys _=>okF (s.bytes.length - ys.length) ys = okF 0 s.bytes) (fun r=>r = if okF 0 s.bytes then (.inl ():Unit ⊕ Bool) else .inr false)
  (fun k x xs a hk' hx hlen hi => by
   have e1:s.bytes.length - (x :: xs).length = k:=by omega
   have e2:s.bytes.length - xs.length = k + 1:=by simp at hlen; omega
   rw [e1] at hi
   rw [e2]
   have hb:=x.toNat_lt
   rw [← hi]
   simp only [ZgM hx,ZmD,Zdx]
   rw [ZmJ (by rw [Za]; simp; omega),Zb (x:=(x.toNat:Int)) (by omega) (by omega),Zb (x:=(k:Int) + 1) (by omega) (by omega)]
   have wx:w64 (x.toNat:Int) = x.toNat:=Zb (by omega) (by omega)
   rw [Zg1]
   by_cases c1:97 ≤ x.toNat ∧ x.toNat ≤ 122
   ·refine .inl ⟨(), ?_, ?_⟩
    ·have : ((97 : Int) ≤ x.toNat ∧ (x.toNat : Int) ≤ 122) := by omega
     simp [this]
    ·simp [c1]
   ·have c1' : ¬ ((97 : Int) ≤ x.toNat ∧ (x.toNat : Int) ≤ 122) := by omega
    by_cases c2:k = 0
    ·subst c2
     exact .inr ⟨.inr false,by simp [c1',wx],by simp [c1]⟩
    ·by_cases c3 : 48 ≤ x.toNat ∧ x.toNat ≤ 57
     ·have : ((48 : Int) ≤ x.toNat ∧ (x.toNat : Int) ≤ 57) := by omega
      exact .inl ⟨(),by simp [c1',c2,this,wx],by simp [c1,c2,c3]⟩
     ·have : ¬ ((48 : Int) ≤ x.toNat ∧ (x.toNat : Int) ≤ 57) := by omega
      exact .inr ⟨.inr false,by simp [c1',c2,this,wx],by simp [c1,c2,c3]⟩)
  (fun a hi => by
   rw [ZmI (by rw [Za]; simp)]
   refine ⟨_,rfl,?_⟩
   rw [← hi]; simp [okF]) (a:=()) (by simp) hn
 rw [show ((0:Nat):Int) = 0 from rfl] at g1
 rw [g1,g2]
 unfold nameB
 cases okF 0 s.bytes
 ·simp
 ·simp only [Zdx,Za,Znl,ZmD,Zn1,Option.some.injEq,decide_eq_decide]; omega
def shB (op w m:Int) (name:Str) (ws:List Int):Bool:=
 if op = 0 then ws.isEmpty && wordB w m
 else if op = 22 then ws.isEmpty && nameB name
 else if 1 ≤ op ∧ op ≤ 2 then (match ws with | [a]=>a == w | _=>false)
 else if 3 ≤ op ∧ op ≤ 13 then (match ws with | [a,b]=>a == w && b == w | _=>false)
 else if 14 ≤ op ∧ op ≤ 16 then (match ws with | [a,b]=>a == b && w == 1 | _=>false)
 else if op = 17 then (match ws with | [a,b,c]=>a == 1 && b == w && c == w | _=>false)
 else if op = 18 then (match ws with | [a,b]=>a + b == w | _=>false)
 else if op = 19 then (match ws with | [a]=>decide (0 ≤ m ∧ m ≤ 16) && decide (m + w ≤ a) | _=>false)
 else if 20 ≤ op ∧ op ≤ 21 then (match ws with | [a]=>decide (a ≤ w) | _=>false)
 else false
def locB (t:D.Term):Bool:=
 decide (1 ≤ t.W ∧ t.W ≤ 16) && (Str.eqb t.Name ⟨[]⟩ || t.Op == 22) && (t.N == 0 || t.Op == 0 || t.Op == 19) && shB t.Op t.W t.N t.Name (t.Kids.map (·.W))
mutual
def nodeB:D.Term → Bool
 | ⟨o,w,m,s,k⟩=>locB ⟨o,w,m,s,k⟩ && nodesB k
def nodesB:List D.Term → Bool
 | []=>true
 | x :: l=>nodeB x && nodesB l
end
theorem Zbp (t:D.Term):nodeB t = (locB t && nodesB t.Kids):=by cases t; rw [nodeB]
theorem Y9:∀ l:List D.Term,nodesB l = l.all nodeB
 | []=>by rw [nodesB]; rfl
 | x :: l=>by rw [nodesB,Y9 l]; rfl
theorem Yx {t:D.Term} (h:nodeB t = true):1 ≤ t.W ∧ t.W ≤ 16:=by
 rw [Zbp] at h
 unfold locB at h
 simp only [ZmK,ZmN] at h
 exact h.1.1.1.1
def pad3:List D.Term → List Int
 | []=>[0,0,0]
 | [a]=>[a.W,0,0]
 | [a,b]=>[a.W,b.W,0]
 | a :: b :: c :: _=>[a.W,b.W,c.W]
theorem ZlS {l:List D.Term} {n:Nat} (hn:4 ≤ n):iterN (fun (s2:Int × (List Int))=>
   if ((decide (s2.1 < (len l))) && (decide (s2.1 < 3))) then
    (get? l s2.1).bind fun x4=>
    (set? s2.2 s2.1 x4.W).bind fun x5=>
    some (.inl ((w64 (s2.1 + 1)),x5))
   else
    some (.inr (s2.2))
  ) n (0,([0,0,0]:List Int)) = some (pad3 l):=by
 obtain ⟨n,rfl⟩ : ∃ j,n = j + 4:=⟨n - 4,by omega⟩
 rcases l with _ | ⟨a,_ | ⟨b,_ | ⟨c,l⟩⟩⟩
 ·simp [iterN,len,pad3]
 ·simp [iterN,len,pad3,get?,set?,Zb]
 ·simp [iterN,len,pad3,get?,set?,Zb]
 ·have h1 : (0 : Int) < (l.length : Int) + 1 + 1 + 1 := by omega
  have h2:(1:Int) < (l.length:Int) + 1 + 1 + 1:=by omega
  have h3:(2:Int) < (l.length:Int) + 1 + 1 + 1:=by omega
  simp [iterN,len,pad3,get?,set?,Zb,h1,h2,h3]
theorem Zk0 {n:Nat} {p0:D.Term} (ih:∀ x ∈ p0.Kids,Yw n x = some (nodeB x)) (hk:p0.Kids.length ≤ 1048576) (hs:p0.Name.bytes.length ≤ 1048576) (hn:1048580 ≤ n) (hw:1 ≤ p0.W ∧ p0.W ≤ 16) :
   ((iterN (fun (s1 : Int) =>
    if (decide (s1 < (len p0.Kids))) then
     (get? p0.Kids s1).bind fun x2=>
     (Yw n x2).bind fun x3=>
     if (!x3) then
      some (.inr (.inr false))
     else
      some (.inl ((w64 (s1 + 1))))
    else
     some (.inr (.inl ()))
   ) n (0)).bind fun (rl1:(Unit) ⊕ Bool)=>
   match rl1 with
   | .inl s1r =>
    (iterN (fun (s2 : Int × (List Int)) =>
     if ((decide (s2.1 < (len p0.Kids))) && (decide (s2.1 < 3))) then
      (get? p0.Kids s2.1).bind fun x4=>
      (set? s2.2 s2.1 x4.W).bind fun x5=>
      some (.inl ((w64 (s2.1 + 1)),x5))
     else
      some (.inr (s2.2))
    ) n (0,([0,0,0]:List Int))).bind fun (rl2:(List Int))=>
    if (p0.Op == 0) then
     (if ((len p0.Kids) == 0) then (Xr p0.W p0.N) else some default).bind fun x6=>
     some (((len p0.Kids) == 0) && x6)
    else
     if (p0.Op == 22) then
      (if ((len p0.Kids) == 0) then (Zam n p0.Name) else some default).bind fun x7=>
      some (((len p0.Kids) == 0) && x7)
     else
      (Zg p0.Op 1 2).bind fun x8=>
      if x8 then
       (if ((len p0.Kids) == 1) then (get? rl2 0) else some default).bind fun x9=>
       some (((len p0.Kids) == 1) && (x9 == p0.W))
      else
       (Zg p0.Op 3 13).bind fun x10=>
       if x10 then
        (if ((len p0.Kids) == 2) then (get? rl2 0) else some default).bind fun x11=>
        (if (((len p0.Kids) == 2) && (x11 == p0.W)) then (get? rl2 1) else some default).bind fun x12=>
        some ((((len p0.Kids) == 2) && (x11 == p0.W)) && (x12 == p0.W))
       else
        (Zg p0.Op 14 16).bind fun x13=>
        if x13 then
         (if ((len p0.Kids) == 2) then (get? rl2 0) else some default).bind fun x14=>
         (if ((len p0.Kids) == 2) then (get? rl2 1) else some default).bind fun x15=>
         some ((((len p0.Kids) == 2) && (x14 == x15)) && (p0.W == 1))
        else
         if (p0.Op == 17) then
          (if ((len p0.Kids) == 3) then (get? rl2 0) else some default).bind fun x16=>
          (if (((len p0.Kids) == 3) && (x16 == 1)) then (get? rl2 1) else some default).bind fun x17=>
          (if ((((len p0.Kids) == 3) && (x16 == 1)) && (x17 == p0.W)) then (get? rl2 2) else some default).bind fun x18=>
          some (((((len p0.Kids) == 3) && (x16 == 1)) && (x17 == p0.W)) && (x18 == p0.W))
         else
          if (p0.Op == 18) then
           (if ((len p0.Kids) == 2) then (get? rl2 0) else some default).bind fun x19=>
           (if ((len p0.Kids) == 2) then (get? rl2 1) else some default).bind fun x20=>
           some (((len p0.Kids) == 2) && ((w64 (x19 + x20)) == p0.W))
          else
           if (p0.Op == 19) then
            (if ((len p0.Kids) == 1) then (Zg p0.N 0 16) else some default).bind fun x21=>
            (if (((len p0.Kids) == 1) && x21) then (get? rl2 0) else some default).bind fun x22=>
            some ((((len p0.Kids) == 1) && x21) && (decide ((w64 (p0.N + p0.W)) ≤ x22)))
           else
            (Zg p0.Op 20 21).bind fun x23=>
            (if (x23 && ((len p0.Kids) == 1)) then (get? rl2 0) else some default).bind fun x24=>
            some ((x23 && ((len p0.Kids) == 1)) && (decide (x24 ≤ p0.W)))
   | .inr v=>some v) = some (nodesB p0.Kids && shB p0.Op p0.W p0.N p0.Name (p0.Kids.map (·.W))):=by
 have hl:=Zhr (l:=p0.Kids) (f:=fun x=>Yw n x) (b:=nodeB) ih (by omega) p0.Kids.length 0 (by omega) n (by omega)
 rw [show ((0:Nat):Int) = 0 from rfl] at hl
 rw [hl,ZoD,Y9]
 by_cases ha:p0.Kids.all nodeB = true
 ·rw [ha]
  have hkw:∀ x ∈ p0.Kids,1 ≤ x.W ∧ x.W ≤ 16:=fun x hx=>Yx (ZmR.1 ha x hx)
  simp only [Znl,ZmD,Zn1,Zdx,ZjG,Zj0 hs (show p0.Name.bytes.length < n by omega)]
  rw [ZlS (by omega)]
  simp only [ZmD]
  generalize hks:p0.Kids = ks
  rw [hks] at hkw
  obtain ⟨op,w,m,nm,_⟩:=p0
  simp only at hw ⊢
  have g0:∀ x y z:Int,get? [x,y,z] 0 = some x:=fun _ _ _=>rfl
  have g1:∀ x y z:Int,get? [x,y,z] 1 = some y:=fun _ _ _=>rfl
  have g2:∀ x y z:Int,get? [x,y,z] 2 = some z:=fun _ _ _=>rfl
  have q0:∀ x y z:D.Term,∀ l:List D.Term,((l.length:Int) + 1 + 1 + 1 + 1 == 0) = false:=fun x y z l=>by simp; omega
  have hA:ks = [] ∨ (∃ a:D.Term,ks = [a] ∧ 1 ≤ a.W ∧ a.W ≤ 16) ∨ (∃ a b:D.Term,ks = [a,b] ∧ (1 ≤ a.W ∧ a.W ≤ 16) ∧ 1 ≤ b.W ∧ b.W ≤ 16) ∨ (∃ a b c:D.Term,ks = [a,b,c]) ∨ ∃ (a b c d:D.Term) (l:List D.Term),ks = a :: b :: c :: d :: l:=by
   rcases ks with _ | ⟨a,_ | ⟨b,_ | ⟨c,_ | ⟨d,l⟩⟩⟩⟩
   ·exact .inl rfl
   ·exact .inr (.inl ⟨a,rfl,hkw a (by simp)⟩)
   ·exact .inr (.inr (.inl ⟨a,b,rfl,hkw a (by simp),hkw b (by simp)⟩))
   ·exact .inr (.inr (.inr (.inl ⟨a,b,c,rfl⟩)))
   ·exact .inr (.inr (.inr (.inr ⟨a,b,c,d,l,rfl⟩)))
  rcases hA with rfl | ⟨a,rfl,ha⟩ | ⟨a,b,rfl,ha,hb⟩ | ⟨a,b,c,rfl⟩ | ⟨a,b,c,d,l,rfl⟩
  ·simp only [pad3, Za, ZnI, Zo6, g0, g1, g2, ZmD, Zd6]
   unfold shB
   by_cases o0:op = 0
   ·simp [o0]
   by_cases o1:op = 22
   ·simp [o1]
   simp [o0,o1]
  ·have e19 : ∀ h : 0 ≤ m ∧ m ≤ 16, w64 (m + w) = m + w := fun h => Zb (by omega) (by omega)
   simp only [pad3,Za,ZnI,Znc,Zo6,ZmX,g0,g1,g2,ZmD,Zd6]
   unfold shB
   by_cases o0:op = 0
   ·simp [o0]
   by_cases o1:op = 22
   ·simp [o1]
   by_cases o2:1 ≤ op ∧ op ≤ 2
   ·simp [o0,o1,o2]
   by_cases o3:3 ≤ op ∧ op ≤ 13
   ·simp [o0,o1,o2,o3]
   by_cases o4:14 ≤ op ∧ op ≤ 16
   ·simp [o0,o1,o2,o3,o4]
   by_cases o5:op = 17
   ·simp [o5]
   by_cases o6:op = 18
   ·simp [o6]
   by_cases o7:op = 19
   ·by_cases hm : 0 ≤ m ∧ m ≤ 16
    ·simp [o7,hm,e19 hm]
    ·simp [o7,hm]
   by_cases o8:20 ≤ op ∧ op ≤ 21
   ·simp [o0,o1,o2,o3,o4,o5,o6,o7,o8]
   simp [o0,o1,o2,o3,o4,o5,o6,o7,o8]
  ·have e18 : w64 (a.W + b.W) = a.W + b.W := Zb (by omega) (by omega)
   simp only [pad3,Za,ZnI,Znc,Zo6,ZmX,g0,g1,g2,ZmD,Zd6,e18]
   unfold shB
   by_cases o0:op = 0
   ·simp [o0]
   by_cases o1:op = 22
   ·simp [o1]
   by_cases o2:1 ≤ op ∧ op ≤ 2
   ·simp [o0,o1,o2]
   by_cases o3:3 ≤ op ∧ op ≤ 13
   ·by_cases c : a.W = w
    ·simp [o0,o1,o2,o3,c]
    ·have c' : (a.W == w) = false := by simpa using c
     simp [o0,o1,o2,o3,c,c']
   by_cases o4:14 ≤ op ∧ op ≤ 16
   ·simp [o0,o1,o2,o3,o4]
   by_cases o5:op = 17
   ·simp [o5]
   by_cases o6:op = 18
   ·simp [o6,e18]
   by_cases o7:op = 19
   ·simp [o7]
   simp [o0,o1,o2,o3,o4,o5,o6,o7]
  ·simp only [pad3, Za, ZnI, Znc, Zo6, ZmX, g0, g1, g2, ZmD, Zd6]
   unfold shB
   by_cases o0:op = 0
   ·simp [o0]
   by_cases o1:op = 22
   ·simp [o1]
   by_cases o2:1 ≤ op ∧ op ≤ 2
   ·simp [o0,o1,o2]
   by_cases o3:3 ≤ op ∧ op ≤ 13
   ·simp [o0,o1,o2,o3]
   by_cases o4:14 ≤ op ∧ op ≤ 16
   ·simp [o0,o1,o2,o3,o4]
   by_cases o5:op = 17
   ·by_cases c1 : a.W = 1
    ·by_cases c2 : b.W = w
     ·simp [o5,c1,c2]
     ·have c2' : (b.W == w) = false := by simpa using c2
      simp [o5,c1,c2,c2']
    ·have c1' : (a.W == 1) = false := by simpa using c1
     simp [o5,c1,c1']
   by_cases o6:op = 18
   ·simp [o6]
   by_cases o7:op = 19
   ·simp [o7]
   simp [o0,o1,o2,o3,o4,o5,o6,o7]
  ·have e0 : (len (a :: b :: c :: d :: l) == 0) = false := by rw [Za]; simp; omega
   have e1:(len (a :: b :: c :: d :: l) == 1) = false:=by rw [Za]; simp; omega
   have e2:(len (a :: b :: c :: d :: l) == 2) = false:=by rw [Za]; simp; omega
   have e3:(len (a :: b :: c :: d :: l) == 3) = false:=by rw [Za]; simp; omega
   simp only [pad3,ZmX,g0,g1,g2,ZmD,Zd6,e0,e1,e2,e3,ZoV,Zp6,ZmQ,ZmF]
   unfold shB
   simp
 ·rw [Bool.not_eq_true] at ha
  rw [ha]
  simp
theorem Zjl:∀ (n:Nat) (t:D.Term),msz t ≤ 1048576 → 1048580 + cnt t ≤ n → Yw n t = some (nodeB t):=by
 intro n
 induction n with
 | zero=>intro t _ _; omega
 | succ n ih=>
  intro t hs hn
  have hz:=Za5 t
  have hc:=XV t
  have ih':∀ x ∈ t.Kids,Yw n x = some (nodeB x):=fun x hx=>by
   have:=ZaK hx
   have:=XW hx
   exact ih x (by omega) (by omega)
  have e0:∀ c:Bool,nodeB t = (decide (1 ≤ t.W ∧ t.W ≤ 16) && (Str.eqb t.Name ⟨[]⟩ || t.Op == 22) && (t.N == 0 || t.Op == 0 || t.Op == 19) && (nodesB t.Kids && shB t.Op t.W t.N t.Name (t.Kids.map (·.W)))):=fun _=>by
   rw [Zbp]; unfold locB
   cases nodesB t.Kids <;> simp
  have e0:=e0 true
  unfold Yw
  rw [Zdx]
  simp only [ZmD]
  have hx:∀ a b c d e f:Bool,((!a || (!b && !c)) || ((!d && !e) && !f)) = !(a && (b || c) && (d || e || f)):=by decide
  rw [show ((!decide (1 ≤ t.W ∧ t.W ≤ 16) || ((!Str.eqb t.Name ⟨[]⟩) && (t.Op != 22))) || (((t.N != 0) && (t.Op != 0)) && (t.Op != 19))) = _ from hx _ _ _ _ _ _]
  cases c:(decide (1 ≤ t.W ∧ t.W ≤ 16) && (Str.eqb t.Name ⟨[]⟩ || t.Op == 22) && (t.N == 0 || t.Op == 0 || t.Op == 19))
  ·rw [e0,c]; rfl
  ·have hw:1 ≤ t.W ∧ t.W ≤ 16:=by
    simp only [ZmK,ZmN] at c
    exact c.1.1
   rw [e0,c,ZmI (by decide),Zn1]
   exact Zk0 ih' (by omega) (by omega) (by omega) hw
set_option linter.unusedSimpArgs false
theorem Zll:∀ x:List UInt8,Op.bytesLess x x = false
 | []=>rfl
 | a :: x=>by simp [Op.bytesLess,Zll x]
theorem Zhv:∀ x y z:List UInt8,Op.bytesLess x y = true → Op.bytesLess y z = true → Op.bytesLess x z = true
 | _,_,[]=>by intro _ h; cases ‹List UInt8› <;> simp [Op.bytesLess] at h
 | _,[],_ :: _=>by intro h _; cases ‹List UInt8› <;> simp [Op.bytesLess] at h
 | [],_ :: _,_ :: _=>by intro _ _; rfl
 | a :: x,b :: y,c :: z=>by
  intro h1 h2
  simp only [Op.bytesLess,Zn2,ZmN,ZmK,ZnK] at h1 h2 ⊢
  rcases h1 with h1 | ⟨rfl,h1⟩
  ·rcases h2 with h2 | ⟨rfl, h2⟩
   ·exact .inl (UInt8.lt_trans h1 h2)
   ·exact .inl h1
  ·rcases h2 with h2 | ⟨rfl, h2⟩
   ·exact .inl h2
   ·exact .inr ⟨rfl,Zhv x y z h1 h2⟩
theorem Zkh:∀ x y:List UInt8,Op.bytesLess x y = false → x ≠ y → Op.bytesLess y x = true
 | [],[]=>fun _ h=>absurd rfl h
 | _ :: _,[]=>fun _ _=>rfl
 | [],_ :: _=>fun h _=>by simp [Op.bytesLess] at h
 | a :: x,b :: y=>by
  intro h1 h2
  simp only [Op.bytesLess,ZoC,decide_eq_false_iff_not,Zn2,ZmN,ZmK,ZnK] at h1 ⊢
  by_cases e:a = b
  ·subst e
   have:Op.bytesLess x y = false:=by simpa using h1.2
   exact .inr ⟨rfl,Zkh x y this (fun h=>h2 (by rw [h]))⟩
  ·rcases UInt8.lt_or_lt_of_ne e with h | h
   ·exact absurd h h1.1
   ·exact .inl h
theorem toList_mk (l:List UInt8):(ByteArray.mk l.toArray).toList = l:=by
 exact (Lib.toList_data _)
theorem ZhT (a b:Str):Str.ltb a b = Op.bytesLess a.bytes b.bytes:=by unfold Str.ltb; rw [toList_mk,toList_mk]
theorem Zdd (a b:Str):Str.eqb a b = decide (a = b):=by
 unfold Str.eqb
 rw [toList_mk,toList_mk]
 by_cases h:a = b
 ·subst h; simp
 ·have : a.bytes ≠ b.bytes := fun e => h (by cases a; cases b; simpa using e)
  simp [h,this]
theorem Zmb (a:Str):Str.ltb a a = false:=by rw [ZhT]; exact Zll _
theorem lt_trans {a b c:Str} (h1:Str.ltb a b = true) (h2:Str.ltb b c = true):Str.ltb a c = true:=by rw [ZhT] at *; exact Zhv _ _ _ h1 h2
theorem Zmh {a b:Str} (h1:Str.ltb a b = false) (h2:a ≠ b):Str.ltb b a = true:=by
 rw [ZhT] at *
 exact Zkh _ _ h1 fun e=>h2 (by cases a; cases b; simpa using e)
mutual
def vrs:D.Term → List (Str × Int)
 | ⟨o,w,_,s,k⟩=>if o = 22 then [(s,w)] else vrss k
def vrss:List D.Term → List (Str × Int)
 | []=>[]
 | x :: l=>vrs x ++ vrss l
end
theorem Zbo (t:D.Term):vrs t = if t.Op = 22 then [(t.Name,t.W)] else vrss t.Kids:=by cases t; rw [vrs]
theorem Zaf (x:D.Term) (l:List D.Term):vrss (x :: l) = vrs x ++ vrss l:=by rw [vrss]
theorem Zb5:vrss [] = []:=by rw [vrss]
def stp (g:List (Str × Int)) (v:Str × Int):Option (List (Str × Int)):=
 match g.lookup v.1 with
 | some w=>if w = v.2 then some g else none
 | none=>some (v :: g)
def runV (g:List (Str × Int)):List (Str × Int) → Option (List (Str × Int))
 | []=>some g
 | v :: l=>(stp g v).bind fun g'=>runV g' l
theorem Zhc (l m:List (Str × Int)):∀ g,runV g (l ++ m) = (runV g l).bind fun g'=>runV g' m:=by
 induction l with
 | nil=>intro g; rfl
 | cons v l ih=>
  intro g
  simp only [List.cons_append,runV]
  cases stp g v with
  | none=>rfl
  | some g'=>simp only [ZmD]; exact ih g'
theorem Zi4 {g g':List (Str × Int)} {v:Str × Int} (h:stp g v = some g'):g'.length ≤ g.length + 1:=by
 unfold stp at h
 split at h
 ·split at h
  ·cases h; omega
  ·cases h
 ·cases h; simp
theorem Ze1:∀ {l g g':List (Str × Int)},runV g l = some g' → g'.length ≤ g.length + l.length
 | [],g,g',h=>by simp only [runV,Option.some.injEq] at h; subst h; simp
 | v :: l,g,g',h=>by
  simp only [runV,ZnL] at h
  obtain ⟨g1,h1,h2⟩:=h
  have:=Zi4 h1
  have:=Ze1 h2
  simp only [Znc]; omega
def Rel (l:List D.Value) (g:List (Str × Int)):Prop:=
 l.Pairwise (fun a b=>Str.ltb a.Name b.Name = true) ∧ l.length = g.length ∧ (∀ v ∈ l,g.lookup v.Name = some v.W) ∧ ∀ s w,g.lookup s = some w → ∃ v ∈ l,v.Name = s
def before (s:Str) (l:List D.Value):Nat:=(l.takeWhile fun v=>Str.ltb v.Name s).length
theorem ZdL (s:Str) (l:List D.Value):before s l ≤ l.length:=(List.takeWhile_sublist _).length_le
theorem ZcB {s:Str}:∀ {l:List D.Value} {i:Nat} {v:D.Value},i < before s l → l[i]? = some v → Str.ltb v.Name s = true
 | [],i,v,h,hv=>by simp at hv
 | x :: l,i,v,h,hv=>by
  unfold before at h
  rw [List.takeWhile_cons] at h
  split at h
  ·cases i with
   | zero=>simp at hv; subst hv; assumption
   | succ i=>exact ZcB (l:=l) (i:=i) (by unfold before; simpa using h) (by simpa using hv)
  ·simp at h
theorem ZcA {s:Str}:∀ {l:List D.Value} {v:D.Value},l[before s l]? = some v → Str.ltb v.Name s = false
 | [],v,hv=>by simp at hv
 | x :: l,v,hv=>by
  unfold before at hv
  rw [List.takeWhile_cons] at hv
  by_cases h:Str.ltb x.Name s = true
  ·rw [ZmJ h] at hv
   exact ZcA (l:=l) (by unfold before; simpa using hv)
  ·rw [ZmI h] at hv
   simp at hv; subst hv
   simpa using h
theorem Zld {l:List D.Value} {s:Str} {n:Nat} (hl:l.length ≤ 1048576) (hn:l.length < n):iterN (fun (s1:Int)=>
   (if (decide (s1 < (len l))) then (get? l s1) else some default).bind fun x1=>
   if ((decide (s1 < (len l))) && (Str.ltb x1.Name s)) then
    some (.inl ((w64 (s1 + 1))))
   else
    some (.inr (s1))
  ) n (0) = some (before s l:Int):=by
 obtain ⟨r,g1,g2⟩:=ZZ (l:=l) (n:=n) (σ:=Unit) (ρ:=Int) (B:=fun (s1:Int)=>
   (if (decide (s1 < (len l))) then (get? l s1) else some default).bind fun x1=>
   if ((decide (s1 < (len l))) && (Str.ltb x1.Name s)) then
    some (.inl ((w64 (s1 + 1))))
   else
    some (.inr (s1))) (fun k _=>(k:Int)) (fun ys _=>l.length ≤ before s l + ys.length) (fun r=>r = (before s l:Int))
  (fun k x xs a hk' hx hlen hi => by
   simp only [Znc] at hlen hi
   have hd:decide ((k:Int) < len l) = true:=by rw [Za]; simp; omega
   rw [ZmJ hd,get?_nat,hx]
   simp only [ZmD,hd,Zn1]
   by_cases c:Str.ltb x.Name s = true
   ·refine .inl ⟨(), by rw [ZmJ c, Zb (by omega) (by omega)]; rfl, ?_⟩
    have:k ≠ before s l:=fun e=>by
     rw [e] at hx
     rw [ZcA hx] at c; cases c
    omega
   ·refine .inr ⟨(k : Int), by rw [ZmI c], ?_⟩
    have:¬ k < before s l:=fun h=>c (ZcB h hx)
    omega)
  (fun a hi => by
   have hd:decide ((l.length:Int) < len l) = false:=by rw [Za]; simp
   simp only [hd,ZmF,ZmQ,ZmD,ZoV]
   have:=ZdL s l
   exact ⟨_,rfl,by simp at hi; omega⟩) (a:=()) (by omega) hn
 rw [show ((0:Nat):Int) = 0 from rfl] at g1
 rw [g1,g2]
theorem Rel.none {l:List D.Value} {g:List (Str × Int)} {s:Str} (h:Rel l g) (hn:∀ v,l[before s l]? = some v → v.Name ≠ s):g.lookup s = none:=by
 cases e:g.lookup s with
 | none=>rfl
 | some w=>
  exfalso
  obtain ⟨v,hv,rfl⟩:=h.2.2.2 s w e
  obtain ⟨j,hj⟩:=ZnJ.1 hv
  rcases Zpm j (before v.Name l) with h1 | h1 | h1
  ·have := ZcB h1 hj
   rw [Zmb] at this; cases this
  ·rw [h1] at hj; exact hn v hj rfl
  ·obtain ⟨hj', e2⟩ := ZmG.1 hj
   have hu:l[before v.Name l]? = some l[before v.Name l]:=ZmE (by omega)
   have h2:=ZcA hu
   have h3:=ZnY.1 h.1 _ _ (by omega) hj' h1
   rw [e2] at h3
   rw [h2] at h3; cases h3
theorem Rel.put {l:List D.Value} {g:List (Str × Int)} {s:Str} {w:Int} (h:Rel l g) (hn:∀ v,l[before s l]? = some v → v.Name ≠ s):Rel (l.take (before s l) ++ [⟨s,w,0⟩] ++ l.drop (before s l)) ((s,w) :: g):=by
 have hno:=h.none hn
 have hb:=ZdL s l
 have hlt:∀ v ∈ l.take (before s l),Str.ltb v.Name s = true:=fun v hv=>by
  obtain ⟨j,hj⟩:=ZnJ.1 hv
  rw [Znr] at hj
  split at hj
  ·exact ZcB (by assumption) hj
  ·cases hj
 have hgt:∀ v ∈ l.drop (before s l),Str.ltb s v.Name = true:=fun v hv=>by
  obtain ⟨j,hj⟩:=ZnJ.1 hv
  rw [ZnD] at hj
  obtain ⟨hj',e2⟩:=ZmG.1 hj
  have hu:l[before s l]? = some l[before s l]:=ZmE (by omega)
  have h1:=Zmh (ZcA hu) (hn _ hu)
  rcases Nat.eq_zero_or_pos j with rfl | hp
  ·simp only [Zo0] at e2; rw [← e2]; exact h1
  ·have h3 := ZnY.1 h.1 _ _ (by omega) hj' (show before s l < before s l + j by omega)
   rw [e2] at h3
   exact lt_trans h1 h3
 have hmem:∀ v,v ∈ l.take (before s l) ++ [⟨s,w,0⟩] ++ l.drop (before s l) ↔ v = ⟨s,w,0⟩ ∨ v ∈ l:=fun v=>by
  have:v ∈ l ↔ v ∈ l.take (before s l) ∨ v ∈ l.drop (before s l):=by
   rw [← Znb,Zoo]
  simp only [Znb,Znm,this]
  grind
 have hp:(l.take (before s l) ++ l.drop (before s l)).Pairwise (fun a b=>Str.ltb a.Name b.Name = true):=by rw [Zoo]; exact h.1
 rw [Zov] at hp
 refine ⟨?_,?_,fun v hv=>?_,fun s' w' hs=>?_⟩
 ·rw [Znf, Zov]
  refine ⟨hp.1,?_,fun a ha b hb=>?_⟩
  ·rw [Zny, Zop]
   exact ⟨fun b hb=>hgt b hb,hp.2.1⟩
  ·rw [Zny] at hb
   rcases Zno.1 hb with rfl | hb
   ·exact hlt a ha
   ·exact hp.2.2 a ha b hb
 ·have := h.2.1
  simp; omega
 ·rcases (hmem v).1 hv with rfl | hv
  ·simp
  ·have h1 := h.2.2.1 v hv
   have:v.Name ≠ s:=fun e=>by rw [e,hno] at h1; cases h1
   rw [Znk]
   have:(v.Name == s) = false:=by simpa using this
   rw [this]; exact h1
 ·rw [Znk] at hs
  by_cases e:s' = s
  ·exact ⟨_,(hmem _).2 (.inl rfl),e.symm⟩
  ·have : (s' == s) = false := by simpa using e
   rw [this] at hs
   obtain ⟨v,h1,h2⟩:=h.2.2.2 s' w' hs
   exact ⟨v,(hmem _).2 (.inr h1),h2⟩
theorem Zl5:∀ n:Nat,(∀ t:D.Term,msz t < n → (vrs t).length ≤ cnt t) ∧ ∀ l:List D.Term,l.length + mszs l < n → (vrss l).length ≤ cnts l:=by
 intro n
 induction n with
 | zero=>exact ⟨fun _ h=>by omega,fun _ h=>by omega⟩
 | succ n ih=>
  have hT:∀ t:D.Term,msz t < n + 1 → (∀ l:List D.Term,l.length + mszs l < n + 1 → (vrss l).length ≤ cnts l) → (vrs t).length ≤ cnt t:=fun t h hl=>by
   have:=Za5 t
   rw [Zbo,XV]
   split
   ·simp
   ·have:=hl t.Kids (by omega); omega
  have hL:∀ l:List D.Term,l.length + mszs l < n + 1 → (vrss l).length ≤ cnts l:=fun l h=>by
   cases l with
   | nil=>rw [Zb5,Zcp]; simp
   | cons x l=>
    rw [Zbg] at h
    simp only [Znc] at h
    rw [Zaf,Zb4,ZmO]
    have h1:=ih.1 x (by omega)
    have h2:=ih.2 l (by omega)
    omega
  exact ⟨fun t h=>hT t h hL,hL⟩
theorem Zfa (t:D.Term):(vrs t).length ≤ cnt t:=(Zl5 (msz t + 1)).1 t (by omega)
theorem ZfF:∀ (n:Nat) (t:D.Term) (l:List D.Value) (g:List (Str × Int)),msz t ≤ 1048576 → Rel l g → g.length + (vrs t).length ≤ 1000 → 1048580 + cnt t ≤ n →
  ∃ l' b,YA n t l = some (l',b) ∧ (b = true → ∃ g',runV g (vrs t) = some g' ∧ Rel l' g') ∧ (b = false → runV g (vrs t) = none):=by
 intro n
 induction n with
 | zero=>intro t l g _ _ _ _; omega
 | succ n ih=>
  intro t l g hs hr hg hn
  have hz:=Za5 t
  have hc:=XV t
  have hlen:=hr.2.1
  unfold YA
  by_cases ho:t.Op = 22
  ·rw [ZmJ (by simpa using ho), Zld (by omega) (by omega)]
   simp only [ZmD]
   have hb:=ZdL t.Name l
   have hv:vrs t = [(t.Name,t.W)]:=by rw [Zbo,ZmJ ho]
   rw [hv]
   have hrun:runV g [(t.Name,t.W)] = stp g (t.Name,t.W):=by
    simp only [runV]; cases stp g (t.Name,t.W) <;> rfl
   rw [hrun]
   by_cases hf:∃ v,l[before t.Name l]? = some v ∧ v.Name = t.Name
   ·obtain ⟨v, hv1, hv2⟩ := hf
    obtain ⟨hlt,-⟩:=ZmG.1 hv1
    have hd:decide ((before t.Name l:Int) < len l) = true:=by rw [Za]; simp; omega
    have hk:g.lookup t.Name = some v.W:=by rw [← hv2]; exact hr.2.2.1 v (ZmM hv1)
    simp only [hd,Znl,get?_nat,hv1,ZmD,Zn1,Zdd,hv2,decide_true]
    refine ⟨_,_,rfl,fun h=>⟨g,?_,hr⟩,fun h=>?_⟩
    ·unfold stp; rw [hk]; simp only; rw [ZmJ (by simpa using h)]
    ·unfold stp; rw [hk]; simp only; rw [ZmI (by simpa using h)]
   ·have hne : ∀ v, l[before t.Name l]? = some v → v.Name ≠ t.Name := fun v h e => hf ⟨v, h, e⟩
    have hno:=hr.none hne
    have hx:∃ x2,(if (decide ((before t.Name l:Int) < (len l))) = true then (get? l (before t.Name l:Int)) else some default) = some x2 ∧ (decide ((before t.Name l:Int) < (len l)) && Str.eqb x2.Name t.Name) = false:=by
     by_cases hlt:before t.Name l < l.length
     ·have hd : decide ((before t.Name l : Int) < len l) = true := by rw [Za]; simp; omega
      refine ⟨l[before t.Name l],?_,?_⟩
      ·rw [ZmJ hd,get?_nat,ZmE hlt]
      ·rw [Zdd,decide_eq_false (hne _ (ZmE hlt))]; simp
     ·have hd : decide ((before t.Name l : Int) < len l) = false := by rw [Za]; simp; omega
      exact ⟨default,by rw [hd]; rfl,by rw [hd]; rfl⟩
    obtain ⟨x2,hx1,hx2⟩:=hx
    rw [hx1]
    simp only [ZmD,hx2,ZmF,ZmQ]
    have c1:cut? l 0 (before t.Name l:Int) = some (l.take (before t.Name l)):=by
     unfold cut?; rw [ZmJ ⟨by omega,by omega,by omega⟩]; simp
    have c2:cut? l (before t.Name l:Int) (len l) = some (l.drop (before t.Name l)):=by
     unfold cut?; rw [Za,ZmJ ⟨by omega,by omega,by omega⟩]; simp
    have c3:app? ([]:List D.Value) (l.take (before t.Name l)) = some (l.take (before t.Name l)):=by
     unfold app?; rw [ZmJ (by unfold room; simp; omega)]; rfl
    have c4:app? (l.take (before t.Name l)) [(⟨t.Name,t.W,0⟩ : D.Value)] = some (l.take (before t.Name l) ++ [⟨t.Name,t.W,0⟩]):=by
     unfold app?; rw [ZmJ (by unfold room; simp; omega)]
    have c5:app? (l.take (before t.Name l) ++ [(⟨t.Name,t.W,0⟩ : D.Value)]) (l.drop (before t.Name l)) = some (l.take (before t.Name l) ++ [⟨t.Name,t.W,0⟩] ++ l.drop (before t.Name l)):=by
     unfold app?; rw [ZmJ (by unfold room; simp; omega)]
    simp only [c1,c2,c3,c4,c5,ZmD]
    refine ⟨_,_,rfl,fun _=>⟨(t.Name,t.W) :: g,?_,hr.put hne⟩,fun h=>by cases h⟩
    unfold stp; rw [hno]
  ·rw [ZmI (by simpa using ho)]
   have hv:vrs t = vrss t.Kids:=by rw [Zbo,ZmI ho]
   rw [hv] at hg ⊢
   obtain ⟨r,g1,g2⟩:=ZZ (l:=t.Kids) (n:=n) (σ:=List D.Value) (ρ:=(List D.Value) ⊕ ((List D.Value) × Bool)) (B:=fun (s2:(List D.Value) × Int)=>
     if (decide (s2.2 < (len t.Kids))) then
      (get? t.Kids s2.2).bind fun x9=>
      (YA n x9 s2.1).bind fun x10=>
      if (!x10.2) then
       some (.inr (.inr (([]:List D.Value),false)))
      else
       some (.inl (x10.1,(w64 (s2.2 + 1))))
     else
      some (.inr (.inl (s2.1)))) (fun k a=>(a,(k:Int))) (fun ys a=>∃ ga,Rel a ga ∧ runV ga (vrss ys) = runV g (vrss t.Kids) ∧ ga.length + (vrss ys).length ≤ 1000 ∧ ∀ x ∈ ys,x ∈ t.Kids)
     (fun r=>(∃ l',r = .inl l' ∧ ∃ g',runV g (vrss t.Kids) = some g' ∧ Rel l' g') ∨ (r = .inr ([],false) ∧ runV g (vrss t.Kids) = none))
     (fun k x xs a hk' hx hlen ⟨ga, i0, i1, i2, i3⟩ => by
      have hxk:=i3 x (by simp)
      have:=ZaK hxk
      have:=XW hxk
      rw [Zaf,Zhc] at i1
      rw [Zaf,ZmO] at i2
      obtain ⟨l',b,e1,e2,e3⟩:=ih x a ga (by omega) i0 (by omega) (by omega)
      have hd:decide ((k:Int) < len t.Kids) = true:=by rw [Za]; simp; omega
      simp only [hd,Znl,get?_nat,hx,ZmD,e1]
      cases b with
      | false=>
       refine .inr ⟨_,rfl,.inr ⟨rfl,?_⟩⟩
       rw [e3 rfl] at i1; exact i1.symm
      | true=>
       obtain ⟨g',h1,h2⟩:=e2 rfl
       refine .inl ⟨l',by simp only [ZmT,ZmF,ZmQ]; rw [Zb (by omega) (by omega)]; rfl,g',h2,?_,?_,fun y hy=>i3 y (by simp [hy])⟩
       ·rw [h1] at i1; exact i1
       ·have:=Ze1 h1; omega)
     (fun a ⟨ga, i0, i1, i2, i3⟩ => by
      have hd:decide ((t.Kids.length:Int) < len t.Kids) = false:=by rw [Za]; simp
      simp only [hd,ZmF,ZmQ]
      rw [Zb5] at i1
      exact ⟨_,rfl,.inl ⟨a,rfl,ga,i1.symm,i0⟩⟩) (a:=l) ⟨g,hr,rfl,hg,fun x hx=>hx⟩ (by omega)
   rw [show ((0:Nat):Int) = 0 from rfl] at g1
   rw [g1]
   rcases g2 with ⟨l',rfl,g',h1,h2⟩ | ⟨rfl,h1⟩
   ·exact ⟨l',true,rfl,fun _=>⟨g',h1,h2⟩,fun h=>by cases h⟩
   ·exact ⟨[],false,rfl,fun h=>(by cases h),fun _=>h1⟩
def termB (t:D.Term):Bool:=decide (cnt t ≤ 240) && nodeB t && (runV [] (vrs t)).isSome
theorem Za2 {t:D.Term} (h:msz t ≤ 1048576):YP fuel t = some (termB t):=by
 unfold YP termB
 rw [few fuel t 240 h (by omega) (by omega) (by unfold fuel; omega)]
 simp only [ZmD]
 by_cases hc:cnt t ≤ 240
 ·have e : decide (lf 240 (cnt t) ≥ 0) = true := by unfold lf; rw [ZmI (by omega)]; simp; omega
  rw [Zjl fuel t h (by unfold fuel; omega)]
  simp only [e,ZmT,ZmF,ZmQ,ZmD,hc,decide_true,Zn1]
  cases hb:nodeB t
  ·simp
  ·have hv := Zfa t
   obtain ⟨l',b,e1,e2,e3⟩:=ZfF fuel t [] [] h ⟨List.Pairwise.nil,rfl,by simp,by simp⟩ (by simp; omega) (by unfold fuel; omega)
   rw [e1]
   cases b with
   | false=>rw [e3 rfl]; rfl
   | true=>obtain ⟨g',h1,-⟩:=e2 rfl; rw [h1]; rfl
 ·have e : decide (lf 240 (cnt t) ≥ 0) = false := by unfold lf; rw [ZmJ (by omega)]; rfl
  simp [e,hc]
theorem ZiZ {n:Nat} {s:Str} (hl:s.bytes.length ≤ 1048576) (hn:s.bytes.length < n):ZaL n s = some (nameB s):=by
 unfold ZaL
 by_cases hlen:1 ≤ s.bytes.length ∧ s.bytes.length ≤ 8
 ·rw [ZmI (by rw [Za]; simp; omega)]
  obtain ⟨r,g1,g2⟩:=ZZ (l:=s.bytes) (n:=n) (σ:=Unit) (ρ:=Unit ⊕ Bool) (B:=fun (s1:Int)=>
   if (decide (s1 < (len s.bytes))) then
    (sidx? s s1).bind fun x1=>
    (if (decide (x1 ≥ 97)) then (sidx? s s1) else some default).bind fun x2=>
    (sidx? s s1).bind fun x3=>
    (if (decide (x3 ≥ 48)) then (sidx? s s1) else some default).bind fun x4=>
    if ((!((decide (x1 ≥ 97)) && (decide (x2 ≤ 122)))) && (!(((decide (x3 ≥ 48)) && (decide (x4 ≤ 57))) && (decide (s1 > 0))))) then
     some (.inr (.inr false))
    else
     some (.inl ((w64 (s1 + 1))))
   else
    some (.inr (.inl ()))) (fun k _=>(k:Int)) (fun ys _=>okF (s.bytes.length - ys.length) ys = okF 0 s.bytes) (fun r=>r = if okF 0 s.bytes then (.inl ():Unit ⊕ Bool) else .inr false)
   (fun k x xs a hk' hx hlen hi => by
    have e1:s.bytes.length - (x :: xs).length = k:=by omega
    have e2:s.bytes.length - xs.length = k + 1:=by simp at hlen; omega
    rw [e1] at hi
    rw [e2]
    have hb:=x.toNat_lt
    rw [← hi]
    simp only [ZgM hx,ZmD]
    rw [ZmJ (by rw [Za]; simp; omega),Zb (by omega) (by omega)]
    have hd:∀ c:Bool,∃ y:Int,(if c = true then (some (x.toNat:Int)) else some default) = some y ∧ (c = true → y = x.toNat):=fun c=>by
     cases c
     ·exact ⟨_,rfl,fun h=>by cases h⟩
     ·exact ⟨_,rfl,fun _=>rfl⟩
    obtain ⟨y2,h2,i2⟩:=hd (decide ((x.toNat:Int) ≥ 97))
    obtain ⟨y4,h4,i4⟩:=hd (decide ((x.toNat:Int) ≥ 48))
    rw [h2,h4]
    simp only [ZmD]
    have j2:(decide ((x.toNat:Int) ≥ 97) && decide (y2 ≤ 122)) = decide (97 ≤ x.toNat ∧ x.toNat ≤ 122):=by
     by_cases c:(x.toNat:Int) ≥ 97
     ·rw [i2 (by simpa using c),ZnP]; simp only [ZmK,ZmN]; omega
     ·rw [ZnP]; simp only [ZmK,ZmN]; omega
    have j4:(decide ((x.toNat:Int) ≥ 48) && decide (y4 ≤ 57)) = decide (48 ≤ x.toNat ∧ x.toNat ≤ 57):=by
     by_cases c:(x.toNat:Int) ≥ 48
     ·rw [i4 (by simpa using c),ZnP]; simp only [ZmK,ZmN]; omega
     ·rw [ZnP]; simp only [ZmK,ZmN]; omega
    rw [j2,j4,Zg1]
    by_cases c1:97 ≤ x.toNat ∧ x.toNat ≤ 122
    ·exact .inl ⟨(),by simp [c1],by simp [c1]⟩
    ·by_cases c3 : 48 ≤ x.toNat ∧ x.toNat ≤ 57
     ·by_cases c2 : k = 0
      ·subst c2
       exact .inr ⟨.inr false,by simp [c1,c3],by simp [c1]⟩
      ·have : (0 : Int) < (k : Int) := by omega
       exact .inl ⟨(),by simp [c1,c3,this,c2],by simp [c1,c2,c3]⟩
     ·exact .inr ⟨.inr false,by simp [c1,c3],by simp [c1,c3]⟩)
   (fun a hi => by
    rw [ZmI (by rw [Za]; simp)]
    refine ⟨_,rfl,?_⟩
    rw [← hi]; simp [okF]) (a:=()) (by simp) hn
  rw [show ((0:Nat):Int) = 0 from rfl] at g1
  rw [g1,g2]
  unfold nameB
  rw [decide_eq_true hlen]
  cases okF 0 s.bytes <;> rfl
 ·rw [ZmJ (by rw [Za]; simp; omega)]
  unfold nameB
  rw [decide_eq_false hlen]; simp
def kc (o:Int):Int:=(YC o).getD 0
theorem Zmw (o:Int):YC o = some (kc o):=by
 unfold kc
 have:∃ k,YC o = some k:=by
  unfold YC
  split
  ·exact ⟨_,rfl⟩
  ·split
   ·exact ⟨_,rfl⟩
   ·split
    ·exact ⟨_,rfl⟩
    ·split
     ·exact ⟨_,rfl⟩
     ·exact ⟨_,rfl⟩
 obtain ⟨k,h⟩:=this
 rw [h]; rfl
theorem ZgI (w:Int):YB w = some (decide (1 ≤ w ∧ w ≤ 16)):=by simp [YB]
theorem Zl2 {t:D.Term} (hw:1 ≤ t.W ∧ t.W ≤ 16) (hk:∀ x ∈ t.Kids,1 ≤ x.W ∧ x.W ≤ 16) (hl:(t.Kids.length:Int) = kc t.Op) :
  ∃ f,XL t = some f ∧ shB t.Op t.W t.N t.Name (t.Kids.map (·.W)) = (f && (t.Op != 0 || wordB t.W t.N) && (t.Op != 22 || nameB t.Name)):=by
 obtain ⟨op,w,m,nm,ks⟩:=t
 simp only at hw hk hl ⊢
 unfold XL shB
 simp only
 have g0:∀ (x:D.Term) (l:List D.Term),get? (x :: l) 0 = some x:=fun _ _=>rfl
 have g1:∀ (x y:D.Term) (l:List D.Term),get? (x :: y :: l) 1 = some y:=fun _ _ _=>rfl
 have g2:∀ (x y z:D.Term) (l:List D.Term),get? (x :: y :: z :: l) 2 = some z:=fun _ _ _ _=>rfl
 have l0:ks.length = 0 → ks = []:=fun h=>Zo2.1 h
 have l1:ks.length = 1 → ∃ a,ks = [a]:=fun h=>ZoS.1 h
 have l2:ks.length = 2 → ∃ a b,ks = [a,b]:=fun h=>by
  rcases ks with _ | ⟨a,_ | ⟨b,_ | ⟨c,l⟩⟩⟩ <;> simp at h
  exact ⟨_,_,rfl⟩
 have l3:ks.length = 3 → ∃ a b c,ks = [a,b,c]:=fun h=>by
  rcases ks with _ | ⟨a,_ | ⟨b,_ | ⟨c,_ | ⟨d,l⟩⟩⟩⟩ <;> simp at h
  exact ⟨_,_,_,rfl⟩
 unfold kc YC at hl
 by_cases o0:op = 0
 ·subst o0
  obtain rfl:=l0 (by simp at hl; simp [hl])
  exact ⟨true,by simp,by simp⟩
 by_cases o1:op = 22
 ·subst o1
  obtain rfl:=l0 (by simp at hl; simp [hl])
  exact ⟨true,by simp,by simp⟩
 have q0:(op != 0) = true:=by simpa using o0
 have q1:(op != 22) = true:=by simpa using o1
 by_cases o2:1 ≤ op ∧ op ≤ 2
 ·have : op = 1 ∨ op = 2 := by omega
  obtain ⟨a,rfl⟩:=l1 (by rcases this with rfl | rfl <;> simp at hl <;> omega)
  refine ⟨a.W == w,?_,?_⟩
  ·rcases this with rfl | rfl <;> simp [g0]
  ·simp [o0,o1,o2,q0,q1]
 by_cases o3:3 ≤ op ∧ op ≤ 13
 ·obtain ⟨a,b,rfl⟩:=l2 (by
   have h1:¬ (op = 1):=by omega
   have h2:¬ (op = 2):=by omega
   have h3:¬ (op = 19):=by omega
   have h4:¬ (op = 20):=by omega
   have h5:¬ (op = 21):=by omega
   have h6:3 ≤ op ∧ op ≤ 16:=by omega
   simp [o0,o1,h1,h2,h3,h4,h5,h6] at hl; omega)
  refine ⟨a.W == w && b.W == w,?_,?_⟩
  ·have h1 : ¬ (op = 1) := by omega
   have h2:¬ (op = 2):=by omega
   by_cases c:a.W = w
   ·simp [g0,g1,o0,o1,h1,h2,o3,c]
   ·have c' : (a.W == w) = false := by simpa using c
    simp [g0,g1,o0,o1,h1,h2,o3,c,c']
  ·simp [o0,o1,o2,o3,q0,q1]
 by_cases o4:14 ≤ op ∧ op ≤ 16
 ·obtain ⟨a,b,rfl⟩:=l2 (by
   have h1:¬ (op = 1):=by omega
   have h2:¬ (op = 2):=by omega
   have h3:¬ (op = 19):=by omega
   have h4:¬ (op = 20):=by omega
   have h5:¬ (op = 21):=by omega
   have h6:3 ≤ op ∧ op ≤ 16:=by omega
   simp [o0,o1,h1,h2,h3,h4,h5,h6] at hl; omega)
  refine ⟨a.W == b.W && w == 1,?_,?_⟩
  ·have h1 : ¬ (op = 1) := by omega
   have h2:¬ (op = 2):=by omega
   simp [g0,g1,o0,o1,h1,h2,o3,o4]
  ·simp [o0,o1,o2,o3,o4,q0,q1]
 by_cases o5:op = 17
 ·subst o5
  obtain ⟨a,b,c,rfl⟩:=l3 (by simp at hl; omega)
  refine ⟨a.W == 1 && b.W == w && c.W == w,?_,?_⟩
  ·by_cases c1 : a.W = 1
   ·by_cases c2 : b.W = w
    ·simp [g0,g1,g2,c1,c2]
    ·have c2' : (b.W == w) = false := by simpa using c2
     simp [g0,g1,g2,c1,c2,c2']
   ·have c1' : (a.W == 1) = false := by simpa using c1
    simp [g0,g1,g2,c1,c1']
  ·simp
 by_cases o6:op = 18
 ·subst o6
  obtain ⟨a,b,rfl⟩:=l2 (by simp at hl; omega)
  have ha:=hk a (by simp)
  have hb:=hk b (by simp)
  have e18:w64 (a.W + b.W) = a.W + b.W:=Zb (by omega) (by omega)
  exact ⟨a.W + b.W == w,by simp [g0,g1,e18],by simp⟩
 by_cases o7:op = 19
 ·subst o7
  obtain ⟨a,rfl⟩:=l1 (by simp at hl; omega)
  have ha:=hk a (by simp)
  have e19:w64 (a.W - w) = a.W - w:=Zb (by omega) (by omega)
  refine ⟨decide (0 ≤ m) && decide (m ≤ a.W - w),?_,?_⟩
  ·by_cases c : 0 ≤ m
   ·simp [g0,e19,c]
   ·simp [g0,e19,c]
  ·simp only [ZmX, Zo6]
   rw [ZnP]
   simp
   omega
 by_cases o8:20 ≤ op ∧ op ≤ 21
 ·have : op = 20 ∨ op = 21 := by omega
  obtain ⟨a,rfl⟩:=l1 (by rcases this with rfl | rfl <;> simp at hl <;> omega)
  refine ⟨decide (a.W ≤ w),?_,?_⟩
  ·rcases this with rfl | rfl <;> simp [g0]
  ·rcases this with rfl | rfl <;> simp
 exfalso
 have h1:¬ (op = 1):=by omega
 have h2:¬ (op = 2):=by omega
 have h4:¬ (op = 20):=by omega
 have h5:¬ (op = 21):=by omega
 have h6:¬ (3 ≤ op ∧ op ≤ 16):=by omega
 simp [o0,o1,h1,h2,o7,h4,h5,h6,o6,o5] at hl
theorem Zl3 {t:D.Term} (hl:¬ (t.Kids.length:Int) = kc t.Op):shB t.Op t.W t.N t.Name (t.Kids.map (·.W)) = false:=by
 obtain ⟨op,w,m,nm,ks⟩:=t
 simp only at hl ⊢
 unfold shB
 unfold kc YC at hl
 have hks:ks = [] ∨ (∃ a:D.Term,ks = [a]) ∨ (∃ a b:D.Term,ks = [a,b]) ∨ (∃ a b c:D.Term,ks = [a,b,c]) ∨ ∃ (a b c d:D.Term) (l:List D.Term),ks = a :: b :: c :: d :: l:=by
  rcases ks with _ | ⟨a,_ | ⟨b,_ | ⟨c,_ | ⟨d,l⟩⟩⟩⟩
  ·exact .inl rfl
  ·exact .inr (.inl ⟨a,rfl⟩)
  ·exact .inr (.inr (.inl ⟨a,b,rfl⟩))
  ·exact .inr (.inr (.inr (.inl ⟨a,b,c,rfl⟩)))
  ·exact .inr (.inr (.inr (.inr ⟨a,b,c,d,l,rfl⟩)))
 by_cases o0:op = 0
 ·subst o0
  rcases hks with rfl | ⟨a,rfl⟩ | ⟨a,b,rfl⟩ | ⟨a,b,c,rfl⟩ | ⟨a,b,c,d,l,rfl⟩ <;> simp at hl ⊢
 by_cases o1:op = 22
 ·subst o1
  rcases hks with rfl | ⟨a,rfl⟩ | ⟨a,b,rfl⟩ | ⟨a,b,c,rfl⟩ | ⟨a,b,c,d,l,rfl⟩ <;> simp at hl ⊢
 by_cases o2:1 ≤ op ∧ op ≤ 2
 ·have : op = 1 ∨ op = 2 := by omega
  rcases this with rfl | rfl <;> rcases hks with rfl | ⟨a,rfl⟩ | ⟨a,b,rfl⟩ | ⟨a,b,c,rfl⟩ | ⟨a,b,c,d,l,rfl⟩ <;> simp at hl ⊢
 have h1:¬ (op = 1):=by omega
 have h2:¬ (op = 2):=by omega
 by_cases o3:3 ≤ op ∧ op ≤ 13
 ·have h3 : ¬ (op = 19) := by omega
  have h4:¬ (op = 20):=by omega
  have h5:¬ (op = 21):=by omega
  have h6:3 ≤ op ∧ op ≤ 16:=by omega
  simp [o0,o1,h1,h2,h3,h4,h5,h6] at hl
  rcases hks with rfl | ⟨a,rfl⟩ | ⟨a,b,rfl⟩ | ⟨a,b,c,rfl⟩ | ⟨a,b,c,d,l,rfl⟩ <;> simp [o0,o1,o2,o3] at hl ⊢
 by_cases o4:14 ≤ op ∧ op ≤ 16
 ·have h3 : ¬ (op = 19) := by omega
  have h4:¬ (op = 20):=by omega
  have h5:¬ (op = 21):=by omega
  have h6:3 ≤ op ∧ op ≤ 16:=by omega
  simp [o0,o1,h1,h2,h3,h4,h5,h6] at hl
  rcases hks with rfl | ⟨a,rfl⟩ | ⟨a,b,rfl⟩ | ⟨a,b,c,rfl⟩ | ⟨a,b,c,d,l,rfl⟩ <;> simp [o0,o1,o2,o3,o4] at hl ⊢
 by_cases o5:op = 17
 ·subst o5
  rcases hks with rfl | ⟨a,rfl⟩ | ⟨a,b,rfl⟩ | ⟨a,b,c,rfl⟩ | ⟨a,b,c,d,l,rfl⟩ <;> simp at hl ⊢
 by_cases o6:op = 18
 ·subst o6
  rcases hks with rfl | ⟨a,rfl⟩ | ⟨a,b,rfl⟩ | ⟨a,b,c,rfl⟩ | ⟨a,b,c,d,l,rfl⟩ <;> simp at hl ⊢
 by_cases o7:op = 19
 ·subst o7
  rcases hks with rfl | ⟨a,rfl⟩ | ⟨a,b,rfl⟩ | ⟨a,b,c,rfl⟩ | ⟨a,b,c,d,l,rfl⟩ <;> simp at hl ⊢
 by_cases o8:20 ≤ op ∧ op ≤ 21
 ·have : op = 20 ∨ op = 21 := by omega
  rcases this with rfl | rfl <;> rcases hks with rfl | ⟨a,rfl⟩ | ⟨a,b,rfl⟩ | ⟨a,b,c,rfl⟩ | ⟨a,b,c,d,l,rfl⟩ <;> simp at hl ⊢
 simp [o0,o1,o2,o3,o4,o5,o6,o7,o8]
abbrev tab (m:Option (List (Str × Int))):List (Str × Int):=m.getD []
theorem get2 {g:List (Str × Int)} {s:Str} (hs:s.bytes.length ≤ 1048576):mget2? fitS (0:Int) g s = some ((g.lookup s).getD 0,(g.lookup s).isSome):=by
 unfold mget2?
 rw [ZmJ (by unfold fitS; simp; omega)]
theorem put1 {g:List (Str × Int)} {s:Str} {w:Int} (hs:s.bytes.length ≤ 1048576) (hw:1 ≤ w ∧ w ≤ 16) (hg:g.length ≤ 1000):mputE? fitS fitZ g s w = some ((s,w) :: g):=by
 unfold mputE?
 rw [ZmJ ⟨by unfold fitS; simp; omega,by unfold fitZ; simp [Lit.wf]; exact ⟨by show (-9223372036854775808:Int) ≤ w; omega,by omega⟩,by unfold room; omega⟩]
theorem Yk {n:Nat} {c:D.termCheck} {t:D.Term} (hs:t.Name.bytes.length ≤ 1048576) (hn:1048580 ≤ n) (hw:1 ≤ t.W ∧ t.W ≤ 16) (hg:(tab c.widths).length ≤ 1000) :
  ∃ b m,Yr n c t = some (b,⟨c.count,m⟩) ∧ (b = true → nameB t.Name = true ∧ stp (tab c.widths) (t.Name,t.W) = some (tab m)) ∧ (b = false → nameB t.Name = false ∨ stp (tab c.widths) (t.Name,t.W) = none):=by
 obtain ⟨cc,ww⟩:=c
 unfold Yr
 rw [ZiZ hs (by omega)]
 simp only [ZmD]
 cases hb:nameB t.Name
 ·exact ⟨false,ww,rfl,fun h=>(by cases h),fun _=>.inl rfl⟩
 ·simp only [ZmT, ZmF, ZmQ]
  cases ww with
  | none=>
   simp only [Option.isNone_none,Znl]
   rw [get2 hs]
   simp only [ZmD,List.lookup_nil,ZoQ,ZmF,ZmQ]
   rw [put1 hs hw (by simp)]
   exact ⟨true,_,rfl,fun _=>⟨trivial,rfl⟩,fun h=>(by cases h)⟩
  | some g=>
   simp only [Option.isNone_some,ZmF,ZmQ,Znv]
   rw [get2 hs]
   simp only [ZmD]
   unfold stp
   simp only [tab,Znv] at hg ⊢
   cases hl:g.lookup t.Name with
   | some w=>
    simp only [Option.isSome_some,Znl,Znv]
    refine ⟨_,_,rfl,fun h=>⟨trivial,?_⟩,fun h=>.inr ?_⟩
    ·rw [ZmJ (by simpa using h)]; rfl
    ·rw [ZmI (by simpa using h)]
   | none=>
    simp only [ZoQ,ZmF,ZmQ]
    rw [put1 hs hw hg]
    exact ⟨true,_,rfl,fun _=>⟨trivial,rfl⟩,fun h=>(by cases h)⟩
theorem ZfD {n:Nat} {ks:List D.Term} {c0:Int} {w0:Option (List (Str × Int))} (hn:1048580 ≤ n) (hks:ks.length ≤ 1048576) (hc:0 ≤ c0) (hc':c0 ≤ 240) (hg:(tab w0).length ≤ c0)
    (ih:∀ x ∈ ks,∀ c:D.termCheck,c0 ≤ c.count → c.count ≤ 240 → (tab c.widths).length ≤ c.count → ∃ b c',Z7 n c x = some (b,c') ∧
      (b = true → c.count + cnt x ≤ 240 ∧ nodeB x = true ∧ c'.count = c.count + cnt x ∧ runV (tab c.widths) (vrs x) = some (tab c'.widths)) ∧ (b = false → ¬ (c.count + cnt x ≤ 240 ∧ nodeB x = true ∧ (runV (tab c.widths) (vrs x)).isSome = true))) :
    ∃ r,iterN (fun (s2:Int × Int × (Option (List (Str × Int))))=>
        if (decide (s2.1 < (len ks))) then
          (get? ks s2.1).bind fun x7=>
          (Z7 n (D.termCheck.mk s2.2.1 s2.2.2) x7).bind fun x8=>
          if (!x8.1) then
            some (.inr (.inr (false,x8.2)))
          else
            some (.inl ((w64 (s2.1 + 1)),x8.2.count,x8.2.widths))
        else
          some (.inr (.inl (s2.2.1,s2.2.2)))
      ) n (0,c0,w0) = some (r:(Int × (Option (List (Str × Int)))) ⊕ (Bool × D.termCheck)) ∧
      ((∃ cc ww, r = .inl (cc, ww) ∧ cc = c0 + cnts ks ∧ cc ≤ 240 ∧ nodesB ks = true ∧ runV (tab w0) (vrss ks) = some (tab ww)) ∨
       ∃ c',r = .inr (false,c') ∧ ¬ (c0 + cnts ks ≤ 240 ∧ nodesB ks = true ∧ (runV (tab w0) (vrss ks)).isSome = true)):=by
  have hrl:=Zfa
  exact ZZ (l := ks) (n := n) (σ := Int × (Option (List (Str × Int)))) (ρ := (Int × (Option (List (Str × Int)))) ⊕ (Bool × D.termCheck)) (B := fun (s2 : Int × Int × (Option (List (Str × Int)))) =>
        if (decide (s2.1 < (len ks))) then
          (get? ks s2.1).bind fun x7=>
          (Z7 n (D.termCheck.mk s2.2.1 s2.2.2) x7).bind fun x8=>
          if (!x8.1) then
            some (.inr (.inr (false,x8.2)))
          else
            some (.inl ((w64 (s2.1 + 1)),x8.2.count,x8.2.widths))
        else
          some (.inr (.inl (s2.2.1,s2.2.2)))) (fun k a=>((k:Int),a.1,a.2))
      (fun ys a=>c0 ≤ a.1 ∧ a.1 ≤ 240 ∧ (tab a.2).length ≤ a.1 ∧ a.1 + cnts ys = c0 + cnts ks ∧ nodesB ys = nodesB ks ∧ runV (tab a.2) (vrss ys) = runV (tab w0) (vrss ks) ∧ ∀ x ∈ ys,x ∈ ks) _
      (fun k x xs a hk' hx hlen ⟨i0,i1,i2,i3,i4,i5,i6⟩=>by
        obtain ⟨ac,aw⟩:=a
        simp only at i0 i1 i2 i3 i5
        rw [Zb4] at i3
        rw [Y9,Zpp,← Y9] at i4
        rw [Zaf,Zhc] at i5
        have hd:decide ((k:Int) < len ks) = true:=by rw [Za]; simp; omega
        obtain ⟨b,c',e1,e2,e3⟩:=ih x (i6 x (by simp)) ⟨ac,aw⟩ i0 i1 i2
        simp only [hd,Znl,get?_nat,hx,ZmD,e1]
        cases b with
        | false =>
          refine .inr ⟨_,rfl,.inr ⟨c',rfl,fun ⟨h1,h2,h3⟩=>e3 rfl ⟨?_,?_,?_⟩⟩⟩
          · simp only; omega
          · rw [← i4,ZmK] at h2; exact h2.1
          · rw [← i5] at h3
            simp only
            cases hq:runV (tab aw) (vrs x) with
            | none=>rw [hq] at h3; cases h3
            | some _=>rfl
        | true =>
          obtain ⟨h1,h2,h3,h4⟩:=e2 rfl
          simp only at h1 h3 h4
          refine .inl ⟨(c'.count,c'.widths),by simp only [ZmT,ZmF,ZmQ]; rw [Zb (by omega) (by omega)]; rfl,by simp only; omega,by simp only; omega,?_,by simp only; omega,by rw [← i4,h2,Zn1],?_,fun y hy=>i6 y (by simp [hy])⟩
          · have := Ze1 h4
            have:=hrl x
            simp only; omega
          · rw [h4] at i5; exact i5)
      (fun a ⟨i0,i1,i2,i3,i4,i5,i6⟩=>by
        obtain ⟨ac,aw⟩:=a
        have hd:decide ((ks.length:Int) < len ks) = false:=by rw [Za]; simp
        simp only [hd,ZmF,ZmQ]
        rw [Zcp] at i3
        rw [Zb5] at i5
        refine ⟨_,rfl,.inl ⟨ac,aw,rfl,by simp only at i3; omega,i1,?_,i5.symm⟩⟩
        rw [← i4,Y9]; rfl) (a:=(c0,w0)) ⟨by simp only; omega,hc',hg,rfl,rfl,rfl,fun x hx=>hx⟩ (by omega)
def wsB (ks:List D.Term):Bool:=ks.all fun x=>decide (1 ≤ x.W ∧ x.W ≤ 16)
theorem Zme {ks:List D.Term} (h:nodesB ks = true):wsB ks = true:=by
 rw [Y9,ZmR] at h
 unfold wsB
 rw [ZmR]
 exact fun x hx=>decide_eq_true (Yx (h x hx))
theorem Zig {n:Nat} {ks:List D.Term} {v:Bool × D.termCheck} (hn:ks.length < n) (hk:ks.length ≤ 1048576):iterN (fun (s1:Int)=>
   if (decide (s1 < (len ks))) then
    (get? ks s1).bind fun x3=>
    (YB x3.W).bind fun x4=>
    if (!x4) then
     some (.inr (.inr v))
    else
     some (.inl ((w64 (s1 + 1))))
   else
    some (.inr (.inl ()))
  ) n (0) = some (if wsB ks = true then (.inl ():Unit ⊕ (Bool × D.termCheck)) else .inr v):=by
 obtain ⟨r,g1,g2⟩:=ZZ (l:=ks) (n:=n) (σ:=Unit) (ρ:=Unit ⊕ (Bool × D.termCheck)) (B:=fun (s1:Int)=>
   if (decide (s1 < (len ks))) then
    (get? ks s1).bind fun x3=>
    (YB x3.W).bind fun x4=>
    if (!x4) then
     some (.inr (.inr v))
    else
     some (.inl ((w64 (s1 + 1))))
   else
    some (.inr (.inl ()))) (fun k _=>(k:Int)) (fun ys _=>wsB ys = wsB ks) (fun r=>r = if wsB ks = true then (.inl ():Unit ⊕ (Bool × D.termCheck)) else .inr v)
  (fun k x xs a hk' hx hlen hi => by
   have hd:decide ((k:Int) < len ks) = true:=by rw [Za]; simp; omega
   simp only [hd,Znl,get?_nat,hx,ZmD,ZgI]
   have e:wsB (x :: xs) = (decide (1 ≤ x.W ∧ x.W ≤ 16) && wsB xs):=rfl
   rw [e] at hi
   by_cases c:1 ≤ x.W ∧ x.W ≤ 16
   ·rw [decide_eq_true c, Zn1] at hi
    exact .inl ⟨(),by rw [decide_eq_true c,ZmI (by decide),Zb (by omega) (by omega)]; rfl,hi⟩
   ·rw [decide_eq_false c, ZoV] at hi
    exact .inr ⟨_,by rw [decide_eq_false c,ZmJ (by decide)],by rw [← hi]; rfl⟩)
  (fun a hi => by
   have hd:decide ((ks.length:Int) < len ks) = false:=by rw [Za]; simp
   simp only [hd,ZmF,ZmQ]
   exact ⟨_,rfl,by rw [← hi]; rfl⟩) (a:=()) rfl hn
 rw [show ((0:Nat):Int) = 0 from rfl] at g1
 rw [g1,g2]
theorem ZjN:∀ (n:Nat) (t:D.Term) (c:D.termCheck),msz t ≤ 1048576 → 0 ≤ c.count → c.count ≤ 240 → (tab c.widths).length ≤ c.count → 1048580 + (241 - c.count) ≤ (n:Int) → ∃ b c',Z7 n c t = some (b,c') ∧
   (b = true → c.count + cnt t ≤ 240 ∧ nodeB t = true ∧ c'.count = c.count + cnt t ∧ runV (tab c.widths) (vrs t) = some (tab c'.widths)) ∧ (b = false → ¬ (c.count + cnt t ≤ 240 ∧ nodeB t = true ∧ (runV (tab c.widths) (vrs t)).isSome = true)):=by
 intro n
 induction n with
 | zero=>intro t c _ _ _ _ _; omega
 | succ n ih=>
  intro t c hs h0 h1 hg hn
  have hz:=Za5 t
  have hc:=XV t
  have hb:=Zbp t
  have bad:nodeB t = false → ¬ (c.count + cnt t ≤ 240 ∧ nodeB t = true ∧ (runV (tab c.widths) (vrs t)).isSome = true):=fun h ⟨_,h2,_⟩=>by rw [h] at h2; cases h2
  unfold Z7
  rw [Zb (by omega) (by omega)]
  by_cases hC:c.count + 1 > 240
  ·simp only [hC, decide_true, Znl, ZmD, Zoq]
   exact ⟨false,_,rfl,fun h=>(by cases h),fun _ ⟨h,_,_⟩=>by omega⟩
  simp only [hC,decide_false,ZmF,ZmQ,ZgI t.W,ZmD,Znt]
  by_cases hw:1 ≤ t.W ∧ t.W ≤ 16
  rotate_left
  ·simp only [hw, decide_false, ZnX, Znl, ZmD, Zoq]
   exact ⟨false,_,rfl,fun h=>(by cases h),fun _=>bad (by rw [hb]; unfold locB; rw [decide_eq_false hw]; simp)⟩
  simp only [hw,decide_true,ZmT,ZmF,ZmQ,ZmD,Znt,and_self,Zmw]
  by_cases hl:(t.Kids.length:Int) = kc t.Op
  rotate_left
  ·have : (len t.Kids != kc t.Op) = true := by rw [Za]; simpa using hl
   rw [ZmJ this]
   exact ⟨false,_,rfl,fun h=>(by cases h),fun _=>bad (by rw [hb]; unfold locB; rw [Zl3 hl]; simp)⟩
  have hl':¬ (len t.Kids != kc t.Op) = true:=by rw [Za]; simpa using hl
  rw [ZmI hl',Zig (by omega) (by omega)]
  simp only [ZmD]
  by_cases hk:wsB t.Kids = true
  rotate_left
  ·rw [ZmI hk]
   refine ⟨false,_,rfl,fun h=>(by cases h),fun _=>bad ?_⟩
   rw [hb]
   cases h:nodesB t.Kids
   ·simp
   ·exact absurd (Zme h) hk
  rw [ZmJ hk]
  have hkw:∀ x ∈ t.Kids,1 ≤ x.W ∧ x.W ≤ 16:=fun x hx=>by
   unfold wsB at hk
   rw [ZmR] at hk
   exact of_decide_eq_true (hk x hx)
  obtain ⟨f,hf1,hf2⟩:=Zl2 hw hkw hl
  have hloc:locB t = ((Str.eqb t.Name ⟨[]⟩ || t.Op == 22) && (t.N == 0 || t.Op == 0 || t.Op == 19) && (f && (t.Op != 0 || wordB t.W t.N) && (t.Op != 22 || nameB t.Name))):=by
   unfold locB; rw [hf2,decide_eq_true hw,Zn1]
  simp only [hf1,ZmD]
  cases f with
  | false=>
   exact ⟨false,_,rfl,fun h=>(by cases h),fun _=>bad (by rw [hb,hloc]; simp)⟩
  | true=>
  simp only [ZmT,ZmF,ZmQ,Zjc]
  have hx6:∃ x6,(if (t.Op == 0) = true then some (wordB t.W t.N) else some default) = some x6 ∧ (t.Op = 0 → x6 = wordB t.W t.N):=by
   by_cases o:t.Op = 0
   ·exact ⟨_,ZmJ (by simpa using o),fun _=>rfl⟩
   ·exact ⟨_,ZmI (by simpa using o),fun h=>absurd h o⟩
  obtain ⟨x6,h6,h6'⟩:=hx6
  rw [h6]
  simp only [ZmD]
  by_cases c6:(t.Op == 0 && !x6) = true
  ·rw [ZmJ c6]
   simp only [ZmK,ZnK,Zn9] at c6
   refine ⟨false,_,rfl,fun h=>(by cases h),fun _=>bad ?_⟩
   rw [hb,hloc,← h6' c6.1,c6.2,c6.1]; simp
  rw [ZmI c6]
  have d6:(t.Op != 0 || wordB t.W t.N) = true:=by
   by_cases o:t.Op = 0
   ·rw [← h6' o,o]; simp [o] at c6; simp [c6]
   ·simp [o]
  by_cases c7:(t.Op != 0 && t.Op != 19 && t.N != 0) = true
  ·rw [ZmJ c7]
   simp only [ZmK,bne_iff_ne,ne_eq] at c7
   refine ⟨false,_,rfl,fun h=>(by cases h),fun _=>bad ?_⟩
   rw [hb,hloc]
   have:(t.N == 0 || t.Op == 0 || t.Op == 19) = false:=by simp [c7]
   rw [this]; simp
  rw [ZmI c7]
  have d7:(t.N == 0 || t.Op == 0 || t.Op == 19) = true:=by
   simp only [ZmK,bne_iff_ne,ne_eq] at c7
   by_cases a1:t.N = 0 <;> by_cases a2:t.Op = 0 <;> by_cases a3:t.Op = 19 <;> simp [a1,a2,a3] at c7 ⊢
  rw [d6,d7] at hloc
  simp only [Zn1,Zpc] at hloc
  have ih':∀ x ∈ t.Kids,∀ c1:D.termCheck,c.count + 1 ≤ c1.count → c1.count ≤ 240 → (tab c1.widths).length ≤ c1.count → ∃ b c',Z7 n c1 x = some (b,c') ∧
   (b = true → c1.count + cnt x ≤ 240 ∧ nodeB x = true ∧ c'.count = c1.count + cnt x ∧ runV (tab c1.widths) (vrs x) = some (tab c'.widths)) ∧ (b = false → ¬ (c1.count + cnt x ≤ 240 ∧ nodeB x = true ∧ (runV (tab c1.widths) (vrs x)).isSome = true)):=fun x hx c1 k1 k2 k3=>by
   have:=ZaK hx
   exact ih x c1 (by omega) (by omega) k2 k3 (by omega)
  by_cases ho:t.Op = 22
  ·rw [ZmI (by simp [ho])]
   have hv:vrs t = [(t.Name,t.W)]:=by rw [Zbo,ZmJ ho]
   have hrun:runV (tab c.widths) (vrs t) = stp (tab c.widths) (t.Name,t.W):=by
    rw [hv]; simp only [runV]; cases stp (tab c.widths) (t.Name,t.W) <;> rfl
   have hks:t.Kids = []:=by
    rw [ho] at hl
    exact Zo2.1 (by have:kc 22 = 0:=rfl; omega)
   obtain ⟨b,m,e1,e2,e3⟩:=Yk (n:=n) (c:=⟨c.count + 1,c.widths⟩) (t:=t) (by omega) (by omega) hw (by simp only; omega)
   rw [e1]
   simp only [ZmD]
   rw [ho] at hloc
   cases b with
   | false=>
    refine ⟨false,_,rfl,fun h=>(by cases h),fun _=>?_⟩
    rcases e3 rfl with e3 | e3
    ·exact bad (by rw [hb,hloc,e3]; simp)
    ·rw [hrun]
     simp only at e3
     rw [e3]
     exact fun ⟨_,_,h⟩=>by cases h
   | true=>
    obtain ⟨e4,e5⟩:=e2 rfl
    simp only at e5
    have hml:(tab m).length ≤ c.count + 1:=by have:=Zi4 e5; omega
    obtain ⟨r,g1,g2⟩:=ZfD (n:=n) (ks:=t.Kids) (c0:=c.count + 1) (w0:=m) (by omega) (by omega) (by omega) (by omega) hml ih'
    rw [hks,Zcp,Zb5] at g2
    have hcn:cnts t.Kids = 0:=by rw [hks,Zcp]
    have hnb:nodesB t.Kids = true:=by rw [hks,Y9]; rfl
    simp only [ZmT,ZmF,ZmQ]
    rw [g1]
    rcases g2 with ⟨cc,ww,rfl,k1,k2,k3,k4⟩ | ⟨c',rfl,k1⟩
    ·refine ⟨true, ⟨cc, ww⟩, rfl, fun _ => ⟨by omega, ?_, by simp only; omega, ?_⟩, fun h => (by cases h)⟩
     ·rw [hb,hloc,e4,hnb]; simp
     ·rw [hrun, e5]
      simp only [runV,Option.some.injEq] at k4
      rw [k4]
    ·exfalso
     apply k1
     refine ⟨by omega,by rw [Y9]; rfl,rfl⟩
  ·rw [ZmJ (by simp [ho])]
   have hv:vrs t = vrss t.Kids:=by rw [Zbo,ZmI ho]
   by_cases c8:Str.eqb t.Name ⟨[]⟩ = true
   rotate_left
   ·rw [ZmJ (by simpa using c8)]
    refine ⟨false,_,rfl,fun h=>(by cases h),fun _=>bad ?_⟩
    rw [hb,hloc]
    simp [c8,ho]
   rw [ZmI (by simp [c8])]
   have hloc':locB t = true:=by rw [hloc,c8]; simp [ho]
   obtain ⟨r,g1,g2⟩:=ZfD (n:=n) (ks:=t.Kids) (c0:=c.count + 1) (w0:=c.widths) (by omega) (by omega) (by omega) (by omega) (by omega) ih'
   rw [g1,hv,hb,hloc']
   simp only [Zn1]
   rcases g2 with ⟨cc,ww,rfl,k1,k2,k3,k4⟩ | ⟨c',rfl,k1⟩
   ·exact ⟨true,⟨cc,ww⟩,rfl,fun _=>⟨by omega,k3,by simp only; omega,k4⟩,fun h=>(by cases h)⟩
   ·exact ⟨false,c',rfl,fun h=>(by cases h),fun _ ⟨h1,h2,h3⟩=>k1 ⟨by omega,h2,h3⟩⟩
theorem Zc1 {t:D.Term} (h:msz t ≤ 1048576):Xt fuel t = some (termB t):=by
 unfold Xt
 obtain ⟨b,c',e1,e2,e3⟩:=ZjN fuel t ⟨0,none⟩ h (by simp) (by simp) (by simp [tab]) (by unfold fuel; simp)
 rw [e1]
 simp only [ZmD,Option.some.injEq]
 unfold termB
 simp only [tab,Option.getD_none] at e2 e3
 cases b with
 | true=>
  obtain ⟨h1,h2,-,h3⟩:=e2 rfl
  rw [h2,h3,decide_eq_true (by omega)]; rfl
 | false=>
  have:=e3 rfl
  cases hb:nodeB t
  ·simp
  ·cases hr : (runV [] (vrs t)).isSome
   ·simp
   ·have : ¬ cnt t ≤ 240 := fun hc => this ⟨by omega, hb, hr⟩
    simp [this]
end Go.Proofs.YtgpcokpcbjloiaaGreat
end
