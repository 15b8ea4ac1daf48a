/- Texts of this claim put into one: library or plain laws, without the program under test. -/
import Derived.Test.YthlolmkdppfioaaGreatLib3
import Derived.Test.YthlolmkdppfioaaGreatDefs
import Derived.Lib.Strings
set_option linter.unusedSimpArgs false
set_option linter.unusedVariables false
section
namespace Go.Proofs.YthlolmkdppfioaaGreat.Cc
open Go.GL
class FU (n:Nat):Prop where
 le:1048577 ≤ n
theorem lt_fuel {n fuel:Nat} [q:FU fuel] (h:n ≤ 1048576):n < fuel:=by have:=q.le; omega
variable {fuel:Nat} [FU fuel]
def iab (x:Int):Int:=if x < 0 then -x else x
def gateB (n:Int) (seen:List D.Gate) (g:D.Gate):Bool:=
 decide (-(n + 1 + (seen.length:Int)) ≤ g.A ∧ g.A ≤ n + 1 + seen.length) && decide (-(n + 1 + (seen.length:Int)) ≤ g.B ∧ g.B ≤ n + 1 + seen.length) && decide (2 ≤ iab g.A) && decide (iab g.A < iab g.B) && !(seen.contains g)
theorem ZX {a:Int} (h:fitInt a) (h' : -1000 ≤ a):ZR a = some (iab a):=by
 unfold ZR iab
 unfold fitInt at h
 by_cases c:a < 0
 ·rw [ZnC (by simpa using c),ZnC c,Ze (by omega) (by omega)]; simp
 ·rw [ZnA (by simpa using c),ZnA c]
def gateAt (x:D.Circuit) (k:Nat):Bool:=match x.Gates[k]? with | some g=>gateB x.Inputs (x.Gates.take k) g | none=>false
def circB2 (x:D.Circuit):Bool:=decide (0 ≤ x.Inputs ∧ x.Inputs ≤ 30) && decide ((x.Gates.length:Int) ≤ 360) && (List.range' 0 x.Gates.length).all (gateAt x)
theorem fitK {g:D.Gate} (h:Zbc g):Z6 g = true:=by
 obtain ⟨h1,h2⟩:=h
 unfold fitInt at h1 h2
 simp only [Z6,fitZ,Lit.wf,IntKind.min,IntKind.max,ZnB]
 simp [IntKind.bits,IntKind.signed] at *
 omega
theorem Zfl {l:List D.Gate} {g:D.Gate}:((l.reverse.map fun q=>(q,true)).lookup g).getD false = l.contains g:=by
 have key:∀ m:List D.Gate,((m.map fun q=>(q,true)).lookup g).getD false = m.contains g:=by
  intro m
  induction m with
  | nil=>rfl
  | cons q m ih=>
   rw [ZnE,Zoi,Zqe]
   by_cases h:g = q
   ·subst h; simp
   ·have : (g == q) = false := by simpa using h
    rw [this]; simpa using ih
 rw [key,Zpr]
 simp
theorem Zji {x:D.Circuit} (hx:Zb5 x) (hl:x.Gates.length ≤ 1048576):Xp fuel x = some (circB2 x):=by
 unfold Xp circB2
 by_cases c:(0 ≤ x.Inputs ∧ x.Inputs ≤ 30) ∧ (x.Gates.length:Int) ≤ 360
 ·obtain ⟨⟨h0, h1⟩, hl3⟩ := c
  rw [ZnA (by rw [Za]; simp; omega)]
  rw [ZbD (I:=fun k s=>s = ((k:Int),(x.Gates.take k).reverse.map fun q=>(q,true))) (m:=x.Gates.length) (ok:=gateAt x) (r:=.inl (x.Gates.reverse.map fun q=>(q,true))) (r':=.inr false) (fun k s hk hs hok=>?_) (fun k s hk hs hok=>?_) (fun s hs=>?_) x.Gates.length 0 _ (by omega) (by simp) fuel (lt_fuel hl)]
  ·simp only [h0, h1, and_self, decide_true, hl3, ZoK]
   cases (List.range' 0 x.Gates.length).all (gateAt x) <;> simp
  all_goals subst hs
  ·refine ⟨(((k + 1 : Nat) : Int), (x.Gates.take (k + 1)).reverse.map fun q => (q, true)), ?_, rfl⟩
   have hfit:Zbc x.Gates[k]:=hx.2.2 _ (Zoq hk)
   have hlt:(x.Gates.take k).length = k:=by simp; omega
   rw [ZnC (by rw [Za]; simp; omega),get?_nat,Zn5 hk]
   simp only [Zn4]
   unfold gateAt at hok
   rw [Zn5 hk] at hok
   simp only at hok
   unfold gateB at hok
   rw [hlt] at hok
   rw [ZnG hk]
   generalize x.Gates[k] = g at hfit hok ⊢
   simp only [ZnB,ZnO,ZoO] at hok
   obtain ⟨⟨⟨⟨cA,cB⟩,c2⟩,c3⟩,c4⟩:=hok
   have nA:g.A ≠ 0:=by unfold iab at c2; split at c2 <;> omega
   have nB:g.B ≠ 0:=by unfold iab at c2 c3; split at c2 <;> split at c3 <;> omega
   rw [Ze (x:=1 + x.Inputs) (by omega) (by omega),Ze (x:=1 + x.Inputs + (k:Int)) (by omega) (by omega)]
   have e1:ZC g.A (1 + x.Inputs + (k:Int)) = some true:=by
    unfold ZC
    rw [Ze (by omega) (by omega)]; simp; omega
   have e2:ZC g.B (1 + x.Inputs + (k:Int)) = some true:=by
    unfold ZC
    rw [Ze (by omega) (by omega)]; simp; omega
   have e3:decide (iab g.A < 2) = false:=by simp; omega
   have e4:decide (iab g.A ≥ iab g.B) = false:=by simp; omega
   have hg:mget? Z6 false ((x.Gates.take k).reverse.map fun q=>(q,true)) g = some false:=by
    unfold mget?
    rw [ZnC (fitK hfit),Zfl,c4]
   have hp:mput? Z6 ((x.Gates.take k).reverse.map fun q=>(q,true)) g true = some ((g,true) :: ((x.Gates.take k).reverse.map fun q=>(q,true))):=by
    unfold mput?
    rw [ZnC ⟨fitK hfit,by simp; unfold room; omega⟩]
   simp only [e1,e2,ZnY,ZpB,Zn6,ZnI,Zn4,ZX hfit.1 (by omega),ZX hfit.2 (by omega),Zo4,e3,e4,hg,hp]
   rw [Ze (by omega) (by omega)]
   simp
  ·have hfit : Zbc x.Gates[k] := hx.2.2 _ (Zoq hk)
   have hlt:(x.Gates.take k).length = k:=by simp; omega
   rw [ZnC (by rw [Za]; simp; omega),get?_nat,Zn5 hk]
   simp only [Zn4]
   unfold gateAt at hok
   rw [Zn5 hk] at hok
   simp only at hok
   unfold gateB at hok
   rw [hlt] at hok
   generalize x.Gates[k] = g at hfit hok ⊢
   rw [Ze (x:=1 + x.Inputs) (by omega) (by omega),Ze (x:=1 + x.Inputs + (k:Int)) (by omega) (by omega)]
   have lit:∀ a:Int,ZC a (1 + x.Inputs + (k:Int)) = some (decide (a ≠ 0 ∧ -(1 + x.Inputs + (k:Int)) ≤ a ∧ a ≤ 1 + x.Inputs + (k:Int))):=by
    intro a
    unfold ZC
    rw [Ze (by omega) (by omega)]
    congr 1
    rw [Zpr]
    simp
    omega
   have hg:mget? Z6 false ((x.Gates.take k).reverse.map fun q=>(q,true)) g = some ((x.Gates.take k).contains g):=by
    unfold mget?
    rw [ZnC (fitK hfit),Zfl]
   simp only [lit,Zn4]
   by_cases cA:g.A ≠ 0 ∧ -(1 + x.Inputs + (k:Int)) ≤ g.A ∧ g.A ≤ 1 + x.Inputs + (k:Int)
   ·by_cases cB : g.B ≠ 0 ∧ -(1 + x.Inputs + (k : Int)) ≤ g.B ∧ g.B ≤ 1 + x.Inputs + (k : Int)
    ·simp only [cA, cB, ne_eq, not_false_eq_true, and_self, decide_true, ZnY, ZpB, Zn6, ZnI, Zn4, hg, Zo4]
     cases hc:(x.Gates.take k).contains g with
     | true=>simp
     | false=>
      simp only [Zn6,ZnI,ZX hfit.1 (by omega),ZX hfit.2 (by omega),Zn4]
      by_cases c2:iab g.A < 2
      ·simp [c2]
      ·have e3 : decide (iab g.A < 2) = false := by simp; omega
       simp only [e3,Zn6,ZnI,Zn4,Zo4]
       by_cases c3:iab g.A ≥ iab g.B
       ·simp [c3]
       ·exfalso
        rw [hc] at hok
        have:(decide (-(x.Inputs + 1 + (k:Int)) ≤ g.A ∧ g.A ≤ x.Inputs + 1 + (k:Int)) && decide (-(x.Inputs + 1 + (k:Int)) ≤ g.B ∧ g.B ≤ x.Inputs + 1 + (k:Int)) && decide (2 ≤ iab g.A) && decide (iab g.A < iab g.B) && !false) = true:=by
         simp; omega
        rw [this] at hok; cases hok
    ·have eB : decide (g.B ≠ 0 ∧ -(1 + x.Inputs + (k : Int)) ≤ g.B ∧ g.B ≤ 1 + x.Inputs + (k : Int)) = false := by simpa using cB
     rw [eB]
     simp [cA]
   ·have eA : decide (g.A ≠ 0 ∧ -(1 + x.Inputs + (k : Int)) ≤ g.A ∧ g.A ≤ 1 + x.Inputs + (k : Int)) = false := by simpa using cA
    rw [eA]
    simp
  ·simp only
   rw [ZnA (by rw [Za]; simp),Zou]
 ·rw [ZnC (by rw [Za]; simp; omega)]
  have:(decide (0 ≤ x.Inputs ∧ x.Inputs ≤ 30) && decide ((x.Gates.length:Int) ≤ 360)) = false:=by
   simp only [Bool.and_eq_false_iff,decide_eq_false_iff_not]; omega
  rw [this]; rfl
end Go.Proofs.YthlolmkdppfioaaGreat.Cc
end
section
namespace Go.Proofs.YthlolmkdppfioaaGreat.Cc
open Go.GL
variable {fuel:Nat} [FU fuel]
def find (l:List D.Gate) (g:D.Gate):Option Nat:=(List.range' 0 l.length).find? fun i=>decide (l[i]? = some g)
theorem ZeT {l:List D.Gate} {g:D.Gate} {i:Nat} (h:find l g = some i):i < l.length ∧ l[i]? = some g:=by
 have:=List.find?_some h
 simp only [ZnO] at this
 exact ⟨(Zn9.1 this).1,this⟩
theorem Zfz {l:List D.Gate} {g:D.Gate}:find l g = none ↔ g ∉ l:=by
 unfold find
 rw [List.find?_eq_none]
 simp only [ZpK,Zpc,ZoW,ZrE,ZnO]
 constructor
 ·intro h hm
  obtain ⟨i,hi⟩:=Zpm.1 hm
  exact h i (Zn9.1 hi).1 hi
 ·intro h i _ hi
  exact h (ZnN hi)
theorem ZjJ {l:List D.Gate} {g h:D.Gate}:find (l ++ [h]) g = (find l g).or (if g = h then some l.length else none):=by
 unfold find
 rw [ZnD,Zpl,List.range'_concat,List.find?_append]
 congr 1
 ·have:∀ n,n ≤ l.length → ∀ k,k + n ≤ l.length → (List.range' k n).find? (fun i=>decide ((l ++ [h])[i]? = some g)) = (List.range' k n).find? (fun i=>decide (l[i]? = some g)):=by
   intro n
   induction n with
   | zero=>intro _ k _; rfl
   | succ n ih=>
    intro hn k hk
    rw [Zqw,Zq2,Zq2,ih (by omega) (k + 1) (by omega),ZnJ (by omega)]
  exact this _ (ZnK _) 0 (by omega)
 ·simp only [Zpc, ZpG, List.find?_singleton]
  rw [ZnH (ZnK _)]
  simp only [ZoR,Zo9,Option.some.injEq,ZnO]
  by_cases e:g = h
  ·rw [ZnC e,ZnC e.symm]
  ·rw [ZnA e,ZnA (fun h=>e h.symm)]
def lines (c:D.Circuit):Int:=c.Inputs + 1 + c.Gates.length
def litN (n x:Int):Bool:=decide (1 ≤ iab x) && decide (iab x ≤ n)
theorem litN_iff {n x:Int}:litN n x = true ↔ 1 ≤ iab x ∧ iab x ≤ n:=by unfold litN; simp
theorem iab_neg (x:Int):iab (-x) = iab x:=by unfold iab; split <;> split <;> omega
theorem ZB {n x:Int}:litN n (-x) = litN n x:=by unfold litN; rw [iab_neg]
theorem litN_mono {n n' x:Int} (h:litN n x = true) (hn:n ≤ n'):litN n' x = true:=by rw [litN_iff] at *; omega
structure CircP (c:D.Circuit):Prop where
 i0:0 ≤ c.Inputs
 i1:c.Inputs ≤ 30
 len:c.Gates.length ≤ 360
 gate:∀ k g,c.Gates[k]? = some g → gateB c.Inputs (c.Gates.take k) g = true
theorem circP_iff {c:D.Circuit}:circB2 c = true ↔ CircP c:=by
 unfold circB2
 simp only [ZnB,ZnO,ZnP,ZpK,Zpc,ZoW,ZrE]
 constructor
 ·rintro ⟨⟨⟨h1, h2⟩, h3⟩, h4⟩
  refine ⟨h1,h2,by omega,fun k g hg=>?_⟩
  have:=h4 k (Zn9.1 hg).1
  unfold gateAt at this
  rw [hg] at this
  exact this
 ·rintro ⟨h1, h2, h3, h4⟩
  refine ⟨⟨⟨h1,h2⟩,by omega⟩,fun k hk=>?_⟩
  unfold gateAt
  rw [Zn5 hk]
  exact h4 k _ (Zn5 hk)
theorem CircP.lines0 {c:D.Circuit} (h:CircP c):1 ≤ lines c:=by have:=h.i0; unfold lines; omega
theorem CircP.lines1 {c:D.Circuit} (h:CircP c):lines c ≤ 391:=by have:=h.i1; have:=h.len; unfold lines; omega
theorem Zbd {n:Int} {l:List D.Gate} {g:D.Gate}:gateB n l g = true ↔ (-(n + 1 + (l.length:Int)) ≤ g.A ∧ g.A ≤ n + 1 + l.length) ∧ (-(n + 1 + (l.length:Int)) ≤ g.B ∧ g.B ≤ n + 1 + l.length) ∧ 2 ≤ iab g.A ∧ iab g.A < iab g.B ∧ g ∉ l:=by
 unfold gateB
 simp only [ZnB,ZnO,ZoO,List.contains_eq_mem,decide_eq_false_iff_not,and_assoc]
theorem CircP.fit {c:D.Circuit} (h:CircP c):Zb5 c:=by
 refine ⟨by have:=h.i0; have:=h.i1; unfold fitInt; omega,by have:=h.len; omega,fun g hg=>?_⟩
 obtain ⟨k,hk⟩:=Zpm.1 hg
 have h1:=Zbd.1 (h.gate k g hk)
 have hl:=(Zn9.1 hk).1
 have h2:=h.len
 have h3:=h.i1
 have:(c.Gates.take k).length ≤ 360:=by rw [ZnF]; omega
 unfold Zbc fitInt
 omega
theorem CircP.snoc {c:D.Circuit} (h:CircP c) {g:D.Gate} (hl:c.Gates.length < 360) (hg:gateB c.Inputs c.Gates g = true):CircP ⟨c.Inputs,c.Gates ++ [g]⟩:=by
 refine ⟨h.i0,h.i1,by simp; omega,fun k x hx=>?_⟩
 simp only at hx ⊢
 by_cases hk:k < c.Gates.length
 ·rw [ZnJ hk] at hx
  rw [Zqx (by omega)]
  exact h.gate k x hx
 ·have hk2 := (Zn9.1 hx).1
  simp at hk2
  obtain rfl:k = c.Gates.length:=by omega
  rw [ZnH (ZnK _)] at hx
  simp at hx
  subst hx
  rw [Zqx (ZnK _),Zou]
  exact hg
theorem CircP.find_take {c:D.Circuit} (h:CircP c) {k:Nat} {g:D.Gate} (hk:c.Gates[k]? = some g):find (c.Gates.take k) g = none:=Zfz.2 (Zbd.1 (h.gate k g hk)).2.2.2.2
structure Grow (c c':D.Circuit):Prop where
 inputs:c'.Inputs = c.Inputs
 gates:c.Gates <+: c'.Gates
theorem Grow.refl (c:D.Circuit):Grow c c:=⟨rfl,List.prefix_rfl⟩
theorem Grow.trans {a b c:D.Circuit} (h:Grow a b) (k:Grow b c):Grow a c:=⟨k.1.trans h.1,h.2.trans k.2⟩
theorem Grow.lines {c c':D.Circuit} (h:Grow c c'):lines c ≤ lines c':=by
 have:=h.2.length_le
 have:=h.1
 unfold Proofs.YthlolmkdppfioaaGreat.Cc.lines; omega
def gate2 (a b:Int):D.Gate:=if iab a > iab b then ⟨b,a⟩ else ⟨a,b⟩
abbrev BS:=D.Circuit × Bool
def andP (s:BS) (a b:Int):Int × BS:=
 if a = -1 ∨ b = -1 ∨ a = -b then (-1,s) else if a = 1 then (b,s) else if b = 1 ∨ a = b then (a,s) else
 match find s.1.Gates (gate2 a b) with
 | some i=>(s.1.Inputs + 2 + i,s)
 | none=>if 360 ≤ s.1.Gates.length then (-1,(s.1,true)) else (s.1.Inputs + 2 + s.1.Gates.length,(⟨s.1.Inputs,s.1.Gates ++ [gate2 a b]⟩,s.2))
theorem Zlh {s:BS} (hs:CircP s.1) {a b:Int} (ha:litN (lines s.1) a = true) (hb:litN (lines s.1) b = true) (h1:¬ (a = -1 ∨ b = -1 ∨ a = -b)) (h2:¬ a = 1) (h3:¬ (b = 1 ∨ a = b)) (hf:find s.1.Gates (gate2 a b) = none):gateB s.1.Inputs s.1.Gates (gate2 a b) = true:=by
 rw [Zbd]
 have hn:=Zfz.1 hf
 rw [litN_iff] at ha hb
 have hl:lines s.1 = s.1.Inputs + 1 + s.1.Gates.length:=rfl
 rw [hl] at ha hb
 refine ⟨?_,?_,?_,?_,hn⟩ <;> (unfold gate2; unfold iab at *; split <;> grind)
theorem Zmg {s:BS} (hs:CircP s.1) {a b:Int} (ha:litN (lines s.1) a = true) (hb:litN (lines s.1) b = true) :
  CircP (andP s a b).2.1 ∧ Grow s.1 (andP s a b).2.1 ∧ litN (lines (andP s a b).2.1) (andP s a b).1 = true:=by
 have h1n:=hs.lines0
 have hi:=hs.i0
 unfold andP
 split
 ·exact ⟨hs,Grow.refl _,litN_iff.2 ⟨by simp [iab],by simpa [iab] using h1n⟩⟩
 ·rename_i c1
  split
  ·exact ⟨hs,Grow.refl _,hb⟩
  ·rename_i c2
   split
   ·exact ⟨hs,Grow.refl _,ha⟩
   ·rename_i c3
    split
    ·rename_i i hf
     refine ⟨hs,Grow.refl _,litN_iff.2 ?_⟩
     have:=(ZeT hf).1
     simp only
     unfold iab lines
     rw [ZnA (by omega)]; omega
    ·rename_i hf
     split
     ·exact ⟨hs,Grow.refl _,litN_iff.2 ⟨by simp [iab],by simpa [iab] using h1n⟩⟩
     ·rename_i c4
      refine ⟨hs.snoc (by omega) (Zlh hs ha hb c1 c2 c3 hf),⟨rfl,List.prefix_append _ _⟩,litN_iff.2 ?_⟩
      simp only
      unfold iab lines
      rw [ZnA (by omega)]; simp; omega
theorem XH {n a:Int} (h:litN n a = true) (hn:n ≤ 391):fitInt a ∧ -1000 ≤ a:=by
 rw [litN_iff] at h
 unfold iab at h
 unfold fitInt
 split at h <;> omega
theorem dec3 {a b:Int} (hb : -1000 ≤ b ∧ b ≤ 1000):((((a == (-1)) || (b == (-1))) || (a == (w64 (0 - b)))) = true) ↔ (a = -1 ∨ b = -1 ∨ a = -b):=by
 rw [Ze (by omega) (by omega)]
 simp only [Zo6,ZoN,or_assoc,Int.zero_sub]
structure LineOk (n:Int) (l:List D.Gate) (m:List (D.Gate × Int)):Prop where
 look:∀ g,m.lookup g = (find l g).map fun (i:Nat)=>n + 2 + (i:Int)
 len:m.length = l.length
theorem LineOk.nil (n:Int):LineOk n [] []:=⟨fun _=>rfl,rfl⟩
theorem LineOk.snoc {n:Int} {l:List D.Gate} {m:List (D.Gate × Int)} (h:LineOk n l m) {g:D.Gate} (hg:find l g = none):LineOk n (l ++ [g]) ((g,n + 2 + (l.length:Int)) :: m):=by
 refine ⟨fun x=>?_,by simp [h.len]⟩
 rw [Zoi,ZjJ]
 by_cases e:x = g
 ·subst e
  simp [hg]
 ·have : (x == g) = false := by simpa using e
  rw [this,ZnA e,h.look x]
  simp
structure RelB (m:D.builder) (s:BS):Prop where
 c:m.c = s.1
 full:m.full = s.2
 line:LineOk s.1.Inputs s.1.Gates m.line
theorem Zks {a b:Int} (ha:fitInt a) (hb:fitInt b):Z6 (gate2 a b) = true:=by
 refine fitK ?_
 unfold gate2
 split
 ·exact ⟨hb,ha⟩
 ·exact ⟨ha,hb⟩
theorem Zih {a:Int} (h:fitInt a):fitZ a = true:=by
 unfold fitInt at h
 simp only [fitZ,Lit.wf,IntKind.min,IntKind.max,ZnB]
 simp [IntKind.bits,IntKind.signed] at *
 omega
theorem Zan {m:D.builder} {s:BS} (hr:RelB m s) (hs:CircP s.1) {a b:Int} (ha:litN (lines s.1) a = true) (hb:litN (lines s.1) b = true) :
  ∃ m',Zi m a b = some ((andP s a b).1,m') ∧ RelB m' (andP s a b).2:=by
 obtain ⟨mc,ml,mf⟩:=m
 obtain ⟨sc,sf⟩:=s
 obtain ⟨hc,hf,hl⟩:=hr
 simp only at hc hf hl
 subst hc
 subst hf
 simp only at hs ha hb
 have hln:=hs.lines1
 have hi0:=hs.i0
 have hi1:=hs.i1
 have hlen:=hs.len
 have fa:=XH ha hln
 have fb:=XH hb hln
 have hb2:=litN_iff.1 hb
 have hbb : -1000 ≤ b ∧ b ≤ 1000:=by unfold iab at hb2; split at hb2 <;> omega
 unfold Zi andP
 by_cases c1:a = -1 ∨ b = -1 ∨ a = -b
 ·rw [ZnC ((dec3 hbb).2 c1),ZnC c1]; exact ⟨_,rfl,⟨rfl,rfl,hl⟩⟩
 rw [ZnA (fun h=>c1 ((dec3 hbb).1 h)),ZnA c1]
 by_cases c2:a = 1
 ·rw [ZnC (by simpa using c2),ZnC c2]; exact ⟨_,rfl,⟨rfl,rfl,hl⟩⟩
 rw [ZnA (by simpa using c2),ZnA c2]
 by_cases c3:b = 1 ∨ a = b
 ·rw [ZnC (by simpa using c3),ZnC c3]; exact ⟨_,rfl,⟨rfl,rfl,hl⟩⟩
 rw [ZnA (by simpa using c3),ZnA c3]
 simp only [ZX fa.1 fa.2,ZX fb.1 fb.2,Zn4]
 have hgf:=Zks fa.1 fb.1
 have hgm:mget2? Z6 (0:Int) ml (gate2 a b) = some (((find mc.Gates (gate2 a b)).map fun (i:Nat)=>mc.Inputs + 2 + (i:Int)).getD 0,((find mc.Gates (gate2 a b)).map fun (i:Nat)=>mc.Inputs + 2 + (i:Int)).isSome):=by
  unfold mget2?; rw [ZnC hgf,hl.look]
 have key:((mget2? Z6 (0:Int) ml (gate2 a b)).bind fun x3=>
     if x3.2 then
      some (x3.1,(⟨mc,ml,mf⟩ : D.builder))
     else
      if (decide ((len mc.Gates) ≥ 360)) then
       some ((-1),(D.builder.mk mc ml true))
      else
       (app? mc.Gates ([gate2 a b]:List D.Gate)).bind fun x4=>
       (ZO (D.Circuit.mk mc.Inputs x4)).bind fun x5=>
       (mputE? Z6 fitZ ml (gate2 a b) x5).bind fun x6=>
       some (x5,(D.builder.mk (D.Circuit.mk mc.Inputs x4) x6 mf))) = match find mc.Gates (gate2 a b) with
    | some i=>some (mc.Inputs + 2 + i,⟨mc,ml,mf⟩)
    | none=>if 360 ≤ mc.Gates.length then some (-1,⟨mc,ml,true⟩) else some (mc.Inputs + 2 + mc.Gates.length,⟨⟨mc.Inputs,mc.Gates ++ [gate2 a b]⟩,(gate2 a b,mc.Inputs + 2 + (mc.Gates.length:Int)) :: ml,mf⟩):=by
  rw [hgm]
  cases hf:find mc.Gates (gate2 a b) with
  | some i=>rfl
  | none=>
   simp only [Zn4,Option.map_none,Zqf,Zn6,ZnI]
   by_cases c4:360 ≤ mc.Gates.length
   ·rw [ZnC (by rw [Za]; simp; omega),ZnC c4]
   ·rw [ZnA (by rw [Za]; simp; omega), ZnA c4]
    have happ:app? mc.Gates [gate2 a b] = some (mc.Gates ++ [gate2 a b]):=by
     unfold app?; rw [ZnC (by simp; unfold room; omega)]
    have hlo:ZO (D.Circuit.mk mc.Inputs (mc.Gates ++ [gate2 a b])) = some (mc.Inputs + 2 + mc.Gates.length):=by
     unfold ZO
     rw [Za,ZnD,Zpl,Ze (x:=1 + mc.Inputs) (by omega) (by omega),Ze (by omega) (by omega)]
     congr 1; omega
    have hpt:mputE? Z6 fitZ ml (gate2 a b) (mc.Inputs + 2 + mc.Gates.length) = some ((gate2 a b,mc.Inputs + 2 + (mc.Gates.length:Int)) :: ml):=by
     unfold mputE?
     rw [ZnC ⟨hgf,Zih (by unfold fitInt; omega),by rw [hl.len]; unfold room; omega⟩]
    rw [happ]
    simp only [Zn4,hlo,hpt]
 have hbr:(if (decide (iab a > iab b)) then
     (mget2? Z6 (0:Int) ml (D.Gate.mk b a)).bind fun x3=>
     if x3.2 then
      some (x3.1,(⟨mc,ml,mf⟩ : D.builder))
     else
      if (decide ((len mc.Gates) ≥ 360)) then
       some ((-1),(D.builder.mk mc ml true))
      else
       (app? mc.Gates ([(D.Gate.mk b a)]:List D.Gate)).bind fun x4=>
       (ZO (D.Circuit.mk mc.Inputs x4)).bind fun x5=>
       (mputE? Z6 fitZ ml (D.Gate.mk b a) x5).bind fun x6=>
       some (x5,(D.builder.mk (D.Circuit.mk mc.Inputs x4) x6 mf))
    else
     (mget2? Z6 (0:Int) ml (D.Gate.mk a b)).bind fun x7=>
     if x7.2 then
      some (x7.1,(⟨mc,ml,mf⟩ : D.builder))
     else
      if (decide ((len mc.Gates) ≥ 360)) then
       some ((-1),(D.builder.mk mc ml true))
      else
       (app? mc.Gates ([(D.Gate.mk a b)]:List D.Gate)).bind fun x8=>
       (ZO (D.Circuit.mk mc.Inputs x8)).bind fun x9=>
       (mputE? Z6 fitZ ml (D.Gate.mk a b) x9).bind fun x10=>
       some (x9,(D.builder.mk (D.Circuit.mk mc.Inputs x8) x10 mf))) = match find mc.Gates (gate2 a b) with
    | some i=>some (mc.Inputs + 2 + i,⟨mc,ml,mf⟩)
    | none=>if 360 ≤ mc.Gates.length then some (-1,⟨mc,ml,true⟩) else some (mc.Inputs + 2 + mc.Gates.length,⟨⟨mc.Inputs,mc.Gates ++ [gate2 a b]⟩,(gate2 a b,mc.Inputs + 2 + (mc.Gates.length:Int)) :: ml,mf⟩):=by
  rw [← key]
  by_cases c5:iab a > iab b
  ·rw [ZnC (by simpa using c5)]
   have:gate2 a b = ⟨b,a⟩:=by unfold gate2; rw [ZnC c5]
   rw [this]
  ·rw [ZnA (by simpa using c5)]
   have:gate2 a b = ⟨a,b⟩:=by unfold gate2; rw [ZnA c5]
   rw [this]
 rw [hbr]
 cases hf:find mc.Gates (gate2 a b) with
 | some i=>exact ⟨_,rfl,⟨rfl,rfl,hl⟩⟩
 | none=>
  simp only
  by_cases c4:360 ≤ mc.Gates.length
  ·rw [ZnC c4,ZnC c4]; exact ⟨_,rfl,⟨rfl,rfl,hl⟩⟩
  ·rw [ZnA c4,ZnA c4]; exact ⟨_,rfl,⟨rfl,rfl,hl.snoc hf⟩⟩
end Go.Proofs.YthlolmkdppfioaaGreat.Cc
end
section
namespace Go.Proofs.YthlolmkdppfioaaGreat.Cc
open Go.GL
variable {fuel:Nat} [FU fuel]
abbrev net (s:BS):D.l04Net:=⟨s.1,s.2⟩
structure Good (s:BS) (r:Int × BS):Prop where
 circ:CircP r.2.1
 grow:Grow s.1 r.2.1
 lit:litN (lines r.2.1) r.1 = true
def ImplOp (f:D.builder → Option (Int × D.builder)) (s:BS) (r:Int × BS):Prop:=∀ m,RelB m s → ∃ m',f m = some (r.1,m') ∧ RelB m' r.2
def orP (s:BS) (a b:Int):Int × BS:=let r:=andP s (-a) (-b); (-r.1,r.2)
def xorP (s:BS) (a b:Int):Int × BS:=let p:=andP s a (-b); let q:=andP p.2 (-a) b; orP q.2 p.1 q.1
def ifP (s:BS) (c a b:Int):Int × BS:=let p:=andP s c a; let q:=andP p.2 (-c) b; orP q.2 p.1 q.1
theorem XF {n x:Int} (h:litN n x = true) (hn:n ≤ 391):w64 (0 - x) = -x:=by
 have:=XH h hn
 rw [litN_iff] at h
 unfold iab at h
 rw [Ze (by split at h <;> omega) (by split at h <;> omega)]; omega
section
variable {s:BS} (hs:CircP s.1)
include hs
theorem ZV {a b:Int} (ha:litN (lines s.1) a = true) (hb:litN (lines s.1) b = true):Good s (andP s a b):=by
 obtain ⟨h1,h2,h3⟩:=Zmg hs ha hb
 exact ⟨h1,h2,h3⟩
theorem Zbr {a b:Int} (ha:litN (lines s.1) a = true) (hb:litN (lines s.1) b = true):Good s (orP s a b):=by
 obtain ⟨h1,h2,h3⟩:=ZV hs (a:=-a) (b:=-b) (by rw [ZB]; exact ha) (by rw [ZB]; exact hb)
 exact ⟨h1,h2,by simp only [orP]; rw [ZB]; exact h3⟩
theorem ZdZ {a b:Int} (ha:litN (lines s.1) a = true) (hb:litN (lines s.1) b = true):ImplOp (fun m=>Zu m a b) s (orP s a b):=by
 intro m hm
 have hn:=hs.lines1
 have g:=ZV hs (a:=-a) (b:=-b) (by rw [ZB]; exact ha) (by rw [ZB]; exact hb)
 obtain ⟨m',h1,h2⟩:=Zan hm hs (a:=-a) (b:=-b) (by rw [ZB]; exact ha) (by rw [ZB]; exact hb)
 refine ⟨m',?_,h2⟩
 unfold Zu orP
 simp only
 rw [XF ha hn,XF hb hn,h1]
 simp only [Zn4]
 rw [XF g.lit g.circ.lines1]
theorem if_good {c a b:Int} (hc:litN (lines s.1) c = true) (ha:litN (lines s.1) a = true) (hb:litN (lines s.1) b = true):Good s (ifP s c a b):=by
 have g1:=ZV hs hc ha
 have g2:=ZV g1.circ (a:=-c) (b:=b) (by rw [ZB]; exact litN_mono hc g1.grow.lines) (litN_mono hb g1.grow.lines)
 have g3:=Zbr g2.circ (a:=(andP s c a).1) (b:=(andP (andP s c a).2 (-c) b).1) (litN_mono g1.lit g2.grow.lines) g2.lit
 exact ⟨g3.circ,(g1.grow.trans g2.grow).trans g3.grow,g3.lit⟩
theorem Zf3 {c a b:Int} (hc:litN (lines s.1) c = true) (ha:litN (lines s.1) a = true) (hb:litN (lines s.1) b = true):∀ m,RelB m s → ∃ m',((Zi m c a).bind fun x1=>
 (Zi x1.2 (w64 (0 - c)) b).bind fun x2=>
 (Zu x2.2 x1.1 x2.1).bind fun x3=>
 some (x3.1,x3.2)) = some ((ifP s c a b).1,m') ∧ RelB m' (ifP s c a b).2:=by
 intro m hm
 have g1:=ZV hs hc ha
 have hc':litN (lines (andP s c a).2.1) (-c) = true:=by rw [ZB]; exact litN_mono hc g1.grow.lines
 have g2:=ZV g1.circ (a:=-c) (b:=b) hc' (litN_mono hb g1.grow.lines)
 obtain ⟨m1,e1,r1⟩:=Zan hm hs hc ha
 obtain ⟨m2,e2,r2⟩:=Zan r1 g1.circ hc' (litN_mono hb g1.grow.lines)
 obtain ⟨m3,e3,r3⟩:=ZdZ g2.circ (a:=(andP s c a).1) (b:=(andP (andP s c a).2 (-c) b).1) (litN_mono g1.lit g2.grow.lines) g2.lit m2 r2
 refine ⟨m3,?_,r3⟩
 unfold ifP
 simp only
 rw [e1]
 simp only [Zn4]
 rw [XF hc hs.lines1,e2]
 simp only [Zn4]
 simp only at e3
 rw [e3]
 rfl
theorem impl_if {c a b:Int} (hc:litN (lines s.1) c = true) (ha:litN (lines s.1) a = true) (hb:litN (lines s.1) b = true):ImplOp (fun m=>Zb m c a b) s (ifP s c a b):=by
 unfold ImplOp Zb
 exact Zf3 hs hc ha hb
theorem XC {a b:Int} (ha:litN (lines s.1) a = true) (hb:litN (lines s.1) b = true):Good s (xorP s a b):=
 if_good hs (c:=a) (a:=-b) (b:=b) ha (by rw [ZB]; exact hb) hb
theorem ZcB {a b:Int} (ha:litN (lines s.1) a = true) (hb:litN (lines s.1) b = true):ImplOp (fun m=>Zx m a b) s (xorP s a b):=by
 intro m hm
 obtain ⟨m',e,r⟩:=Zf3 hs (c:=a) (a:=-b) (b:=b) ha (by rw [ZB]; exact hb) hb m hm
 refine ⟨m',?_,r⟩
 simp only at e ⊢
 unfold Zx
 rw [XF hb hs.lines1]
 exact e
end
theorem ZhH {n x:Int} (hn:0 ≤ n):(decide (x ≠ 0) && (decide (-n ≤ x) && decide (x ≤ n))) = litN n x:=by
 unfold litN iab
 split <;> grind
theorem Zc6 {x n:Int} (h0:0 ≤ n) (h1:n ≤ 1000):ZC x n = some (litN n x):=by
 unfold ZC
 rw [Ze (by omega) (by omega),← ZhH h0,Bool.and_assoc]
 congr 1
 have e1:(x != 0) = decide (x ≠ 0):=by cases h:x != 0 <;> simp_all
 have e2:decide (x ≥ 0 - n) = decide (-n ≤ x):=by simp
 rw [e1,e2]
theorem ZaW {l:List Int} {n:Int} (h0:0 ≤ n) (h1:n ≤ 1000) (hl:l.length ≤ 1048576):Ya fuel l n = some (l.all (litN n)):=by
 unfold Ya
 rw [ZbD (I:=fun k t=>t = (k:Int)) (m:=l.length) (ok:=fun k=>(l[k]?).all (litN n)) (r:=.inl ()) (r':=.inr false) (fun k t hk ht hok=>?_) (fun k t hk ht hok=>?_) (fun t ht=>?_) l.length 0 _ (by omega) (by simp) fuel (lt_fuel hl)]
 ·have:((List.range' 0 l.length).all fun k=>(l[k]?).all (litN n)) = l.all (litN n):=by
   rw [Zpr,ZnP,ZnP]
   constructor
   ·intro h x hx
    obtain ⟨i,hi⟩:=Zpm.1 hx
    have:=h i (by simp [ZpK]; exact (Zn9.1 hi).1)
    rw [hi] at this; simpa using this
   ·intro h i hi
    simp [ZpK] at hi
    rw [Zn5 hi]
    simpa using h _ (Zoq hi)
  rw [this]
  cases l.all (litN n) <;> simp
 all_goals subst ht
 ·refine ⟨((k + 1 : Nat) : Int), ?_, rfl⟩
  rw [ZnC (by rw [Za]; simp; omega),get?_nat,Zn5 hk]
  rw [Zn5 hk] at hok
  simp only [Option.all_some] at hok
  simp only [Zn4,Zc6 h0 h1,hok]
  rw [ZnA (by simp),Ze (by omega) (by omega)]
  rfl
 ·rw [ZnC (by rw [Za]; simp; omega), get?_nat, Zn5 hk]
  rw [Zn5 hk] at hok
  simp only [Option.all_some] at hok
  simp only [Zn4,Zc6 h0 h1,hok]
  rw [ZnC (by simp)]
 ·rw [ZnA (by rw [Za]; simp)]
theorem Zhu {c:D.Circuit} (hc:CircP c):ZO c = some (lines c):=by
 have:=hc.i0
 have:=hc.i1
 have:=hc.len
 unfold ZO
 rw [Za,Ze (x:=1 + c.Inputs) (by omega) (by omega),Ze (by omega) (by omega)]
 unfold lines
 congr 1; omega
theorem impl_new {c:D.Circuit} (hc:CircP c):∃ m,Xd fuel c = some m ∧ RelB m (c,false):=by
 have h0:=hc.i0
 have h1:=hc.i1
 have h2:=hc.len
 have hcl:Z8 c.Gates = some c.Gates:=by
  unfold Z8
  have:app? ([]:List D.Gate) c.Gates = some c.Gates:=by
   unfold app?; rw [ZnC (by simp; unfold room; omega)]; simp
  rw [this]; rfl
 let mk:Nat → List (D.Gate × Int):=fun k=>((List.range k).reverse.map fun i=>(c.Gates.getD i default,c.Inputs + 2 + (i:Int)))
 have hmk:∀ k,k < c.Gates.length → mk (k + 1) = (c.Gates.getD k default,c.Inputs + 2 + (k:Int)) :: mk k:=by
  intro k hk
  simp only [mk]
  rw [Zpg,ZpT,List.reverse_singleton,Zox,ZnE]
 have hln:∀ k,k ≤ c.Gates.length → LineOk c.Inputs (c.Gates.take k) (mk k):=by
  intro k
  induction k with
  | zero=>intro _; exact LineOk.nil _
  | succ k ih=>
   intro hk
   have hk':k < c.Gates.length:=by omega
   have hg:c.Gates[k]? = some (c.Gates.getD k default):=by
    rw [Zn5 hk',Zn8,Zn5 hk']; rfl
   rw [hmk k hk',ZnG hk']
   have:=(ih (by omega)).snoc (hc.find_take hg)
   have e:c.Gates.getD k default = c.Gates[k]:=by rw [Zn5 hk'] at hg; exact (Option.some.inj hg).symm
   rw [e] at this ⊢
   rw [ZnF,Zop (by omega)] at this
   exact this
 refine ⟨⟨c,mk c.Gates.length,false⟩,?_,⟨rfl,rfl,?_⟩⟩
 ·unfold Xd
  rw [hcl]
  simp only [Zn4]
  rw [Xv (I:=fun k t=>t = ((k:Int),mk k)) (m:=c.Gates.length) (r:=mk c.Gates.length) (fun k t hk ht=>?_) (fun t ht=>?_) c.Gates.length 0 _ (by omega) (by simp [mk]) fuel (lt_fuel (by omega))]
  ·rfl
  all_goals subst ht
  ·refine ⟨(((k + 1 : Nat) : Int), mk (k + 1)), ?_, rfl⟩
   have hfit:Zbc c.Gates[k]:=hc.fit.2.2 _ (Zoq hk)
   simp only
   rw [ZnC (by rw [Za]; simp; omega),get?_nat,Zn5 hk]
   simp only [Zn4]
   rw [Ze (x:=2 + c.Inputs) (by omega) (by omega),Ze (x:=2 + c.Inputs + (k:Int)) (by omega) (by omega)]
   have e:c.Gates.getD k default = c.Gates[k]:=by rw [Zn8,Zn5 hk]; rfl
   have hp:mputE? Z6 fitZ (mk k) c.Gates[k] (2 + c.Inputs + (k:Int)) = some (mk (k + 1)):=by
    unfold mputE?
    rw [ZnC ⟨fitK hfit,Zih (by unfold fitInt; omega),by rw [(hln k (by omega)).len]; unfold room; simp; omega⟩,hmk k hk,e]
    congr 3; omega
   rw [hp]
   simp only [Zn4]
   rw [Ze (by omega) (by omega)]
   rfl
  ·simp only
   rw [ZnA (by rw [Za]; simp)]
 ·have := hln c.Gates.length (ZnK _)
  rw [Zou] at this
  exact this
abbrev AS:=List Int × Int × BS
def addStep (t:AS) (p:Int × Int):AS:=
 let x:=xorP t.2.2 p.1 p.2
 let o:=xorP x.2 x.1 t.2.1
 let y:=andP o.2 p.1 p.2
 let z:=andP y.2 x.1 t.2.1
 let w:=orP z.2 y.1 z.1
 (t.1 ++ [o.1],w.1,w.2)
def addP (s:BS) (a b:List Int) (c:Int):AS:=(a.zip b).foldl addStep ([],c,s)
theorem Ze2 {α β:Type} (f:β → α → β) (Pp:Nat → β → Prop) (l:List α) (b:β) (h0:Pp 0 b) (hs:∀ k x t,l[k]? = some x → Pp k t → Pp (k + 1) (f t x)):∀ k,k ≤ l.length → Pp k ((l.take k).foldl f b):=by
 intro k
 induction k with
 | zero=>intro _; exact h0
 | succ k ih=>
  intro hk
  rw [ZnG (by omega),Zor]
  exact hs k _ _ (Zn5 (by omega)) (ih (by omega))
structure GoodA (s:BS) (k:Nat) (t:AS):Prop where
 circ:CircP t.2.2.1
 grow:Grow s.1 t.2.2.1
 lit:litN (lines t.2.2.1) t.2.1 = true
 len:t.1.length = k
 lits:∀ x ∈ t.1,litN (lines t.2.2.1) x = true
theorem Zlk {s:BS} {k:Nat} {t:AS} (h:GoodA s k t) {p:Int × Int} (h1:litN (lines s.1) p.1 = true) (h2:litN (lines s.1) p.2 = true):GoodA s (k + 1) (addStep t p):=by
 have a1:=litN_mono h1 h.grow.lines
 have a2:=litN_mono h2 h.grow.lines
 have gx:=XC h.circ a1 a2
 have go:=XC gx.circ gx.lit (litN_mono h.lit gx.grow.lines)
 have e1:=gx.grow.trans go.grow
 have gy:=ZV go.circ (litN_mono a1 e1.lines) (litN_mono a2 e1.lines)
 have e2:=go.grow.trans gy.grow
 have e3:=gx.grow.trans e2
 have gz:=ZV gy.circ (litN_mono gx.lit e2.lines) (litN_mono h.lit e3.lines)
 have gw:=Zbr gz.circ (litN_mono gy.lit gz.grow.lines) gz.lit
 have e4:=gy.grow.trans (gz.grow.trans gw.grow)
 have e5:=e1.trans e4
 refine ⟨gw.circ,h.grow.trans e5,gw.lit,by simp [addStep,h.len],fun x hx=>?_⟩
 simp only [addStep,ZnS,ZnX] at hx
 rcases hx with hx | rfl
 ·exact litN_mono (h.lits x hx) e5.lines
 ·exact litN_mono go.lit e4.lines
theorem zip_mem {a b:List Int} {p:Int × Int} {k:Nat} (h:(a.zip b)[k]? = some p):a[k]? = some p.1 ∧ b[k]? = some p.2:=by
 rw [List.getElem?_zip_eq_some] at h
 exact h
theorem Zcm {s:BS} (hs:CircP s.1) {a b:List Int} {c:Int} (ha:∀ x ∈ a,litN (lines s.1) x = true) (hb:∀ x ∈ b,litN (lines s.1) x = true) (hc:litN (lines s.1) c = true) :
  ∀ k,k ≤ (a.zip b).length → GoodA s k (((a.zip b).take k).foldl addStep ([],c,s)):=
 Ze2 addStep (GoodA s) _ _ ⟨hs,Grow.refl _,hc,rfl,fun _ h=>by cases h⟩ fun k p t hp ht=>Zlk ht (ha _ (ZnN (zip_mem hp).1)) (hb _ (ZnN (zip_mem hp).2))
theorem YD {s:BS} (hs:CircP s.1) {a b:List Int} {c:Int} (hab:a.length = b.length) (ha:∀ x ∈ a,litN (lines s.1) x = true) (hb:∀ x ∈ b,litN (lines s.1) x = true) (hc:litN (lines s.1) c = true):GoodA s a.length (addP s a b c):=by
 have:=Zcm hs ha hb hc (a.zip b).length (ZnK _)
 rw [Zou,Zo7,← hab,ZpH] at this
 exact this
theorem set_fill {l:List Int} {n:Nat} {x:Int}:(l ++ List.replicate (n + 1) 0).set l.length x = (l ++ [x]) ++ List.replicate n 0:=by
 rw [ZoL _ _ (ZnK _),ZoR,Zp3,Zpp,Zoh,Zox]
theorem ZbX {s:BS} (hs:CircP s.1) {m:D.builder} (hm:RelB m s) {a b:List Int} {c:Int} (hl:a.length ≤ 1048576) (hab:a.length = b.length) (ha:∀ x ∈ a,litN (lines s.1) x = true) (hb:∀ x ∈ b,litN (lines s.1) x = true) (hc:litN (lines s.1) c = true) :
  ∃ m',ZG fuel m a b c = some ((addP s a b c).1,(addP s a b c).2.1,m') ∧ RelB m' (addP s a b c).2.2:=by
 have hz:(a.zip b).length = a.length:=by rw [Zo7,← hab,ZpH]
 obtain ⟨mc,ml,mf⟩:=m
 obtain ⟨sc,sf⟩:=s
 obtain ⟨hc1,hf1,hl1⟩:=hm
 simp only at hc1 hf1 hl1
 subst hc1
 subst hf1
 simp only at hs ha hb hc
 have main:∀ (d k:Nat) (ln:List (D.Gate × Int)),k + d = a.length →
   (let r:=((a.zip b).take k).foldl addStep ([],c,(mc,mf)); RelB ⟨r.2.2.1,ln,r.2.2.2⟩ r.2.2) → ∀ n,d < n → ∃ ln',
   iterN (fun (s1:Int × Int × (List Int) × Int × Bool × (List D.Gate) × (List (D.Gate × Int)))=>
  if (decide (s1.2.1 < (len a))) then
   (get? a s1.2.1).bind fun x2=>
   (get? b s1.2.1).bind fun x3=>
   (Zx (D.builder.mk (D.Circuit.mk s1.2.2.2.1 s1.2.2.2.2.2.1) s1.2.2.2.2.2.2 s1.2.2.2.2.1) x2 x3).bind fun x4=>
   (Zx x4.2 x4.1 s1.1).bind fun x5=>
   (set? s1.2.2.1 s1.2.1 x5.1).bind fun x6=>
   (get? a s1.2.1).bind fun x7=>
   (get? b s1.2.1).bind fun x8=>
   (Zi x5.2 x7 x8).bind fun x9=>
   (Zi x9.2 x4.1 s1.1).bind fun x10=>
   (Zu x10.2 x9.1 x10.1).bind fun x11=>
   some (.inl (x11.1,(w64 (s1.2.1 + 1)),x6,x11.2.c.Inputs,x11.2.full,x11.2.c.Gates,x11.2.line))
  else
   some (.inr (s1.1,s1.2.2.1,s1.2.2.2.1,s1.2.2.2.2.1,s1.2.2.2.2.2.1,s1.2.2.2.2.2.2))) n
    (let r:=((a.zip b).take k).foldl addStep ([],c,(mc,mf)); (r.2.1,(k:Int),r.1 ++ List.replicate d 0,r.2.2.1.Inputs,r.2.2.2,r.2.2.1.Gates,ln)) =
    some (let r:=addP (mc,mf) a b c; (r.2.1,r.1,r.2.2.1.Inputs,r.2.2.2,r.2.2.1.Gates,ln')) ∧ (let r:=addP (mc,mf) a b c; RelB ⟨r.2.2.1,ln',r.2.2.2⟩ r.2.2):=by
  intro d
  induction d with
  | zero=>
   intro k ln hk hr n hn
   obtain ⟨n,rfl⟩ : ∃ j,n = j + 1:=⟨n - 1,by omega⟩
   obtain rfl:k = a.length:=by omega
   refine ⟨ln,?_,?_⟩
   ·unfold iterN addP
    rw [Zov (by omega)]
    simp only
    rw [ZnA (by rw [Za]; simp)]
    simp
   ·unfold addP
    rw [Zov (by omega)] at hr
    exact hr
  | succ d ih=>
   intro k ln hk hr n hn
   obtain ⟨n,rfl⟩ : ∃ j,n = j + 1:=⟨n - 1,by omega⟩
   have hka:k < a.length:=by omega
   have hk':k < (a.zip b).length:=by omega
   have hkb:k < b.length:=by omega
   have h:=Zcm (s:=(mc,mf)) hs ha hb hc k (by omega)
   have ih1:=ih (k + 1)
   rw [ZnG hk',Zor,List.getElem_zip] at ih1
   generalize ((a.zip b).take k).foldl addStep ([],c,(mc,mf)) = t at h hr ih1 ⊢
   have a1:=litN_mono (ha _ (Zoq hka)) h.grow.lines
   have a2:=litN_mono (hb _ (Zoq hkb)) h.grow.lines
   have gx:=XC h.circ a1 a2
   have go:=XC gx.circ gx.lit (litN_mono h.lit gx.grow.lines)
   have e1:=gx.grow.trans go.grow
   have gy:=ZV go.circ (litN_mono a1 e1.lines) (litN_mono a2 e1.lines)
   have e2:=go.grow.trans gy.grow
   have e3:=gx.grow.trans e2
   have gz:=ZV gy.circ (litN_mono gx.lit e2.lines) (litN_mono h.lit e3.lines)
   obtain ⟨m1,sx,r1⟩:=ZcB h.circ a1 a2 _ hr
   obtain ⟨m2,so,r2⟩:=ZcB gx.circ gx.lit (litN_mono h.lit gx.grow.lines) _ r1
   obtain ⟨m3,sy,r3⟩:=Zan r2 go.circ (litN_mono a1 e1.lines) (litN_mono a2 e1.lines)
   obtain ⟨m4,sz,r4⟩:=Zan r3 gy.circ (litN_mono gx.lit e2.lines) (litN_mono h.lit e3.lines)
   obtain ⟨m5,sw,r5⟩:=ZdZ gz.circ (litN_mono gy.lit gz.grow.lines) gz.lit _ r4
   simp only at sx so sw
   obtain ⟨c5,l5,f5⟩:=m5
   obtain ⟨hc5,hf5,hl5⟩:=r5
   simp only at hc5 hf5 hl5
   have hnext:=ih1 l5 (by omega) (by simp only [Zo5,ZoY]; exact ⟨rfl,rfl,hl5⟩) n (by omega)
   obtain ⟨ln',hi,hrr⟩:=hnext
   refine ⟨ln',?_,hrr⟩
   rw [← hi]
   conv=>lhs; unfold iterN
   simp only
   rw [ZnC (by rw [Za]; simp; omega),get?_nat,get?_nat,Zn5 hka,Zn5 hkb]
   simp only [Zn4]
   have sx':Zx (D.builder.mk (D.Circuit.mk t.2.2.1.Inputs t.2.2.1.Gates) ln t.2.2.2) a[k] b[k] = _:=sx
   rw [sx']
   simp only [Zn4]
   rw [so]
   simp only [Zn4]
   have hset:∀ q,set? (t.1 ++ List.replicate (d + 1) 0) (k:Int) q = some ((t.1 ++ [q]) ++ List.replicate d 0):=fun q=>by
    have e:=set_fill (l:=t.1) (n:=d) (x:=q)
    rw [h.len] at e
    rw [set?_nat (by simp [h.len]),e]
   rw [hset]
   simp only [Zn4]
   rw [sy]
   simp only [Zn4]
   rw [sz]
   simp only [Zn4]
   rw [sw]
   simp only [Zn4]
   rw [Ze (by omega) (by omega),hc5,hf5]
   rfl
 obtain ⟨ln',hi,hr⟩:=main a.length 0 ml (by omega) (by simp only [Zqt,ZoY]; exact ⟨rfl,rfl,hl1⟩) fuel (lt_fuel hl)
 refine ⟨_,?_,hr⟩
 unfold ZG
 rw [mk?_len (by unfold room; omega)]
 simp only [Zn4]
 simp only [Zqt,ZoY,Zq1] at hi
 have hi':=congrArg (fun r=>Option.bind r fun (rl1:Int × (List Int) × Int × Bool × (List D.Gate) × (List (D.Gate × Int)))=>some (rl1.2.1,rl1.1,(D.builder.mk (D.Circuit.mk rl1.2.2.1 rl1.2.2.2.2.1) rl1.2.2.2.2.2 rl1.2.2.2.1))) hi
 exact hi'
end Go.Proofs.YthlolmkdppfioaaGreat.Cc
end
section
namespace Go.Proofs.YthlolmkdppfioaaGreat.Cc
open Go.GL
variable {fuel:Nat} [FU fuel]
end Go.Proofs.YthlolmkdppfioaaGreat.Cc
end
section
namespace Go.Proofs.YthlolmkdppfioaaGreat.Cc
open Go.GL
variable {fuel:Nat} [FU fuel]
abbrev LS:=List Int × BS
section
variable {α:Type}
def seqP (f:BS → α → Int × BS) (s:BS) (l:List α):LS:=l.foldl (fun t x=>(t.1 ++ [(f t.2 x).1],(f t.2 x).2)) ([],s)
structure GoodL (s:BS) (n:Nat) (t:LS):Prop where
 circ:CircP t.2.1
 grow:Grow s.1 t.2.1
 len:t.1.length = n
 lits:∀ x ∈ t.1,litN (lines t.2.1) x = true
def FOk (f:BS → α → Int × BS) (s:BS) (l:List α):Prop:=∀ s' x,CircP s'.1 → Grow s.1 s'.1 → x ∈ l → Good s' (f s' x)
theorem Zbo {f:BS → α → Int × BS} {s:BS} {l:List α} (hs:CircP s.1) (hf:FOk f s l):∀ k,k ≤ l.length → GoodL s k (seqP f s (l.take k)):=
 Ze2 _ (GoodL s) l _ ⟨hs,Grow.refl _,rfl,fun _ h=>by cases h⟩ fun k x t hx ht=>by
  have g:=hf t.2 x ht.circ ht.grow (ZnN hx)
  refine ⟨g.circ,ht.grow.trans g.grow,by simp [ht.len],fun y hy=>?_⟩
  simp only [ZnS,ZnX] at hy
  rcases hy with hy | rfl
  ·exact litN_mono (ht.lits y hy) g.grow.lines
  ·exact g.lit
theorem seq_good {f:BS → α → Int × BS} {s:BS} {l:List α} (hs:CircP s.1) (hf:FOk f s l):GoodL s l.length (seqP f s l):=by
 have:=Zbo hs hf l.length (ZnK _)
 rw [Zou] at this
 exact this
theorem Zb6 {f:BS → α → Int × BS} {s:BS} {l:List α} {k:Nat} {x:α} (hx:l[k]? = some x):seqP f s (l.take (k + 1)) = ((seqP f s (l.take k)).1 ++ [(f (seqP f s (l.take k)).2 x).1],(f (seqP f s (l.take k)).2 x).2):=by
 obtain ⟨hk,rfl⟩:=Zn9.1 hx
 unfold seqP
 rw [ZnG hk,Zor]
 rfl
theorem Zbi {σt ρt:Type} {B:σt → Option (σt ⊕ ρt)} {I:Nat → σt → Prop} {m:Nat} {R:ρt → Prop} (hs:∀ k s,k < m → I k s → ∃ s',B s = some (.inl s') ∧ I (k + 1) s') (hf:∀ s,I m s → ∃ r,B s = some (.inr r) ∧ R r) :
  ∀ (d k:Nat) (s:σt),k + d = m → I k s → ∀ n,d < n → ∃ r,iterN B n s = some r ∧ R r
 | 0,k,s,hk,hi,n,hn=>by
  obtain ⟨n,rfl⟩ : ∃ j,n = j + 1:=⟨n - 1,by omega⟩
  obtain rfl:k = m:=by omega
  obtain ⟨r,h1,h2⟩:=hf s hi
  exact ⟨r,by unfold iterN; rw [h1],h2⟩
 | d + 1,k,s,hk,hi,n,hn=>by
  obtain ⟨n,rfl⟩ : ∃ j,n = j + 1:=⟨n - 1,by omega⟩
  obtain ⟨s',h1,h2⟩:=hs k s (by omega) hi
  obtain ⟨r,h3,h4⟩:=Zbi hs hf d (k + 1) s' (by omega) h2 n (by omega)
  exact ⟨r,by unfold iterN; rw [h1]; exact h3,h4⟩
theorem ZbF {σt ρt γ:Type} {B:σt → Option (σt ⊕ ρt)} {I:Nat → σt → Prop} {m:Nat} {R:ρt → Prop} {f:ρt → Option γ} {G:γ → Prop} (hs:∀ k s,k < m → I k s → ∃ s',B s = some (.inl s') ∧ I (k + 1) s') (hf:∀ s,I m s → ∃ r,B s = some (.inr r) ∧ R r)
  (d k:Nat) (s:σt) (hk:k + d = m) (hi:I k s) (n:Nat) (hn:d < n) (hfin:∀ r,R r → ∃ y,f r = some y ∧ G y):∃ y,(iterN B n s).bind f = some y ∧ G y:=by
 obtain ⟨r,h1,h2⟩:=Zbi hs hf d k s hk hi n hn
 rw [h1]
 exact hfin r h2
theorem ZiC {α β:Type} {X:Option (α × β)} {v:α} {R:β → Prop} (h:∃ y,X = some y ∧ ∃ m,y = (v,m) ∧ R m):∃ m,X = some (v,m) ∧ R m:=by
 obtain ⟨y,h1,m,rfl,h2⟩:=h
 exact ⟨m,h1,h2⟩
theorem Zie {l L0:List Int} {k:Nat} {x:Int} (hl:l.length = k) (hk:k < L0.length):(l ++ L0.drop k).set k x = (l ++ [x]) ++ L0.drop (k + 1):=by
 subst hl
 rw [ZoL _ _ (ZnK _),ZoR,Zoj hk,Zpp,Zoh,Zox]
theorem impl_seq {f:BS → α → Int × BS} {l:List α} {s:BS} {B:Int × List Int × Int × Bool × List D.Gate × List (D.Gate × Int) → Option ((Int × List Int × Int × Bool × List D.Gate × List (D.Gate × Int)) ⊕ (List Int × Int × Bool × List D.Gate × List (D.Gate × Int)))} (hs:CircP s.1) (hl:l.length ≤ 1000) (hf:FOk f s l) {L0:List Int} (hL:L0.length = l.length)
  (hB:∀ (j:Nat) (L:List Int) (m:D.builder) (s':BS) (x:α),l[j]? = some x → CircP s'.1 → Grow s.1 s'.1 → RelB m s' → L.length = l.length → (∀ i,j ≤ i → L[i]? = L0[i]?) → ∃ m',B ((j:Int),L,m.c.Inputs,m.full,m.c.Gates,m.line) = some (.inl (((j + 1:Nat):Int),L.set j (f s' x).1,m'.c.Inputs,m'.full,m'.c.Gates,m'.line)) ∧ RelB m' (f s' x).2)
  (hE:∀ (L:List Int) (m:D.builder),B (((l.length:Nat):Int),L,m.c.Inputs,m.full,m.c.Gates,m.line) = some (.inr (L,m.c.Inputs,m.full,m.c.Gates,m.line))) {m:D.builder} (hm:RelB m s) :
  ∃ m',iterN B fuel (0,L0,m.c.Inputs,m.full,m.c.Gates,m.line) = some ((seqP f s l).1,m'.c.Inputs,m'.full,m'.c.Gates,m'.line) ∧ RelB m' (seqP f s l).2:=by
 have key:∃ r,iterN B fuel (0,L0,m.c.Inputs,m.full,m.c.Gates,m.line) = some r ∧ ∃ m':D.builder,r = ((seqP f s l).1,m'.c.Inputs,m'.full,m'.c.Gates,m'.line) ∧ RelB m' (seqP f s l).2:=by
  refine Zbi (B:=B) (I:=fun k t=>∃ m':D.builder,t = ((k:Int),(seqP f s (l.take k)).1 ++ L0.drop k,m'.c.Inputs,m'.full,m'.c.Gates,m'.line) ∧ RelB m' (seqP f s (l.take k)).2) (m:=l.length) (fun k t hk ht=>?_) (fun t ht=>?_) l.length 0 _ (by omega) ⟨m,rfl,hm⟩ fuel (lt_fuel (by omega))
  ·obtain ⟨m1, rfl, hr⟩ := ht
   have g:=Zbo hs hf k (by omega)
   obtain ⟨m2,h3,h4⟩:=hB k ((seqP f s (l.take k)).1 ++ L0.drop k) m1 (seqP f s (l.take k)).2 l[k] (Zn5 hk) g.circ g.grow hr (by rw [ZnD,g.len,Zoe]; omega) (fun i hi=>by rw [ZnH (by rw [g.len]; omega),g.len,ZoC]; congr 1; omega)
   refine ⟨_,h3,m2,?_,?_⟩
   ·rw [Zb6 (Zn5 hk),Zie g.len (by omega)]
   ·rw [Zb6 (Zn5 hk)]
    exact h4
  ·obtain ⟨m1, rfl, hr⟩ := ht
   refine ⟨_,hE _ m1,m1,?_,?_⟩
   ·rw [Zou,Zpe (by omega),Zoz]
   ·rw [Zou] at hr; exact hr
 obtain ⟨r,h1,m',rfl,h2⟩:=key
 exact ⟨m',h1,h2⟩
end
def negs (l:List Int):List Int:=l.map fun x=>-x
theorem negs_len (l:List Int):(negs l).length = l.length:=by simp [negs]
theorem negs_lits {n:Int} {l:List Int} (h:∀ x ∈ l,litN n x = true):∀ x ∈ negs l,litN n x = true:=by
 intro x hx
 obtain ⟨y,hy,rfl⟩:=ZoB.1 hx
 rw [ZB]; exact h y hy
theorem impl_opp {n:Int} {l:List Int} (hn:n ≤ 391) (hl:l.length ≤ 1000) (h:∀ x ∈ l,litN n x = true):Ym fuel l = some (negs l):=by
 unfold Ym
 rw [mk?_len (by unfold room; omega)]
 simp only [Zn4]
 rw [Xv (I:=fun k t=>t = ((k:Int),negs (l.take k) ++ List.replicate (l.length - k) 0)) (m:=l.length) (r:=negs l) (fun k t hk ht=>?_) (fun t ht=>?_) l.length 0 _ (by omega) (by simp [negs]) fuel (lt_fuel (by omega))]
 ·rfl
 all_goals subst ht
 ·refine ⟨_, ?_, rfl⟩
  simp only
  rw [ZnC (by rw [Za]; simp; omega),get?_nat,Zn5 hk]
  simp only [Zn4]
  have hln:(negs (l.take k)).length = k:=by rw [negs_len,ZnF]; omega
  rw [XF (h _ (Zoq hk)) hn,set?_nat (by simp [hln]; omega)]
  simp only [Zn4]
  have e:(negs (l.take k) ++ List.replicate (l.length - k) 0).set k (-l[k]) = negs (l.take (k + 1)) ++ List.replicate (l.length - (k + 1)) 0:=by
   have:=set_fill (l:=negs (l.take k)) (n:=l.length - (k + 1)) (x:=-l[k])
   rw [hln,show l.length - (k + 1) + 1 = l.length - k by omega] at this
   rw [this,ZnG hk]
   unfold negs
   rw [Zo2]
   rfl
  rw [e,Ze (by omega) (by omega)]
  rfl
 ·simp only
  rw [ZnA (by rw [Za]; simp),Zou]
  simp
theorem band01:(band 0 1 == 1) = false:=by decide
theorem ZeV {w:Nat} (hw:w ≤ 1000):ZW fuel (w:Int) 0 = some (List.replicate w (-1)):=by
 unfold ZW
 have hmk:mk? (w:Int) (0:Int) = some (List.replicate w 0):=by
  unfold mk?; rw [ZnC ⟨by omega,by unfold room; omega⟩]; rfl
 rw [hmk]
 simp only [Zn4]
 rw [Xv (I:=fun k t=>t = ((k:Int),List.replicate k (-1) ++ List.replicate (w - k) 0)) (m:=w) (r:=List.replicate w (-1)) (fun k t hk ht=>?_) (fun t ht=>?_) w 0 _ (by omega) (by simp) fuel (lt_fuel (by omega))]
 ·rfl
 all_goals subst ht
 ·refine ⟨_, ?_, rfl⟩
  simp only
  rw [ZnC (by rw [Za]; simp; omega),set?_nat (by simp; omega)]
  simp only [Zn4]
  have hw:IntKind.u64.wrap (k:Int) = k:=by unfold IntKind.wrap; simp [IntKind.bits,IntKind.signed]; omega
  have hsh:shr? 0 (k:Int) = some 0:=by
   unfold shr?; rw [ZnA (by omega)]; simp
  rw [hw,hsh]
  simp only [Zn4]
  rw [ZnA (by rw [band01]; simp)]
  have e:(List.replicate k (-1) ++ List.replicate (w - k) 0).set k (-1) = List.replicate (k + 1) (-1) ++ List.replicate (w - (k + 1)) 0:=by
   have:=set_fill (l:=List.replicate k (-1)) (n:=w - (k + 1)) (x:=-1)
   rw [Zos,show w - (k + 1) + 1 = w - k by omega] at this
   rw [this,List.replicate_succ']
  rw [e,Ze (by omega) (by omega)]
  rfl
 ·simp only
  rw [ZnA (by rw [Za]; simp)]
  simp
theorem Yr {c:D.Circuit} (h:CircP c):litN (lines c) (-1) = true:=litN_iff.2 ⟨by simp [iab],by have:=h.lines0; simpa [iab] using this⟩
theorem XD {c:D.Circuit} (h:CircP c):litN (lines c) 1 = true:=litN_iff.2 ⟨by simp [iab],by have:=h.lines0; simpa [iab] using this⟩
def partF (bk:Int):BS → Int → Int × BS:=fun s x=>andP s bk x
def mulStep (a b:List Int) (t:LS) (k:Nat):LS:=
 let p:=seqP (partF (b.getD k 0)) t.2 (a.take (a.length - k))
 let q:=addP p.2 (t.1.drop k) p.1 (-1)
 (t.1.take k ++ q.1,q.2.2)
def mulK (s:BS) (a b:List Int) (k:Nat):LS:=(List.range k).foldl (mulStep a b) (List.replicate a.length (-1),s)
theorem mulK_succ (s:BS) (a b:List Int) (k:Nat):mulK s a b (k + 1) = mulStep a b (mulK s a b k) k:=by
 unfold mulK; rw [Zpg,Zor]; rfl
theorem ZfM {s:BS} {a b:List Int} (ha:∀ x ∈ a,litN (lines s.1) x = true) (hb:∀ x ∈ b,litN (lines s.1) x = true) {t:LS} (hg:Grow s.1 t.2.1) {k:Nat} (hk:k < b.length):FOk (partF (b.getD k 0)) t.2 (a.take (a.length - k)):=by
 intro s' x hc hgr hx
 have hbk:b.getD k 0 ∈ b:=by rw [Zn8,Zn5 hk]; exact Zoq hk
 have e:=hg.trans hgr
 exact ZV hc (litN_mono (hb _ hbk) e.lines) (litN_mono (ha _ (ZoV hx)) e.lines)
section
variable {s:BS} (hs:CircP s.1) {a b:List Int} (hab:a.length = b.length) (ha:∀ x ∈ a,litN (lines s.1) x = true) (hb:∀ x ∈ b,litN (lines s.1) x = true)
include hs hab ha hb
theorem Zcg (k:Nat) (hk:k ≤ a.length):GoodL s a.length (mulK s a b k):=by
 induction k with
 | zero => exact ⟨hs, Grow.refl _, by simp [mulK], fun x hx => by
   simp only [mulK,Zq3,ZoY] at hx
   rw [ZqF hx]; exact Yr hs⟩
 | succ k ih=>
  have g:=ih (by omega)
  rw [mulK_succ]
  generalize mulK s a b k = t at g ⊢
  have gp:=seq_good g.circ (ZfM ha hb g.grow (k:=k) (by omega))
  have gpl:(seqP (partF (b.getD k 0)) t.2 (a.take (a.length - k))).1.length = a.length - k:=by rw [gp.len,ZnF]; omega
  have gq:=YD gp.circ (a:=t.1.drop k) (b:=(seqP (partF (b.getD k 0)) t.2 (a.take (a.length - k))).1) (c:=-1) (by rw [gpl,Zoe,g.len]) (fun x hx=>litN_mono (g.lits x (ZoH hx)) gp.grow.lines) gp.lits (Yr gp.circ)
  refine ⟨gq.circ,(g.grow.trans gp.grow).trans gq.grow,?_,fun x hx=>?_⟩
  ·simp only [mulStep,ZnD,ZnF,gq.len,Zoe,g.len]; omega
  ·simp only [mulStep, ZnS] at hx
   rcases hx with hx | hx
   ·exact litN_mono (g.lits x (ZoV hx)) (gp.grow.trans gq.grow).lines
   ·exact gq.lits x hx
end
theorem getD_get {l:List Int} {k:Nat} (hk:k < l.length):l[k]? = some (l.getD k 0):=by
 rw [Zn8,Zn5 hk]; rfl
theorem getD_mem {l:List Int} {k:Nat} (hk:k < l.length):l.getD k 0 ∈ l:=ZnN (getD_get hk)
theorem Zlg {l:List Int} {k:Nat} (hk:k ≤ l.length):cut? l (k:Int) (len l) = some (l.drop k):=by
 unfold cut?
 rw [Za,ZnC ⟨by omega,by omega,by omega⟩]
 simp
theorem ZiK {l:List Int} (h:l.length ≤ 1000):app? ([]:List Int) l = some l:=by
 unfold app?; rw [ZnC (by simp; unfold room; omega)]; rfl
theorem Zk6 {l m:List Int} (h:l.length + m.length ≤ 100000):app? l m = some (l ++ m):=by
 unfold app?; rw [ZnC (by unfold room; omega)]
theorem Zhq {l m:List Int} {k:Nat} (hk:k ≤ l.length) (hm:m.length = l.length - k):vcopy l (k:Int) (l.length - k) m = l.take k ++ m:=by
 unfold vcopy
 rw [Zoo,Zov (l:=m) (by omega),Zpe (by omega),Zoz]
section
variable {s:BS} (hs:CircP s.1) {a b:List Int} (hab:a.length = b.length) (hl:a.length ≤ 16) (ha:∀ x ∈ a,litN (lines s.1) x = true) (hb:∀ x ∈ b,litN (lines s.1) x = true)
include hs hab hl ha hb
theorem Zll {m:D.builder} (hm:RelB m s):∃ m',Yq fuel m a b = some ((mulK s a b a.length).1,m') ∧ RelB m' (mulK s a b a.length).2:=by
 unfold Yq
 rw [Za,ZeV (by omega)]
 simp only [Zn4]
 refine ZiC ?_
 refine ZbF (I:=fun k t=>∃ m':D.builder,t = ((k:Int),(mulK s a b k).1,m'.c.Inputs,m'.full,m'.c.Gates,m'.line) ∧ RelB m' (mulK s a b k).2) (R:=fun r=>∃ m':D.builder,r = ((mulK s a b a.length).1,m'.c.Inputs,m'.full,m'.c.Gates,m'.line) ∧ RelB m' (mulK s a b a.length).2) (m:=a.length) (fun k t hk ht=>?_) (fun t ht=>?_) a.length 0 _ (by omega) ⟨m,rfl,hm⟩ fuel (lt_fuel (by omega)) (fun r hr=>?_)
 ·obtain ⟨m1, rfl, hr⟩ := ht
  have g:=Zcg hs hab ha hb k (by omega)
  have hok:=ZfM ha hb g.grow (k:=k) (by omega)
  have gp:=seq_good g.circ hok
  rw [mulK_succ]
  generalize mulK s a b k = t at g gp hok hr ⊢
  have gpl:(seqP (partF (b.getD k 0)) t.2 (a.take (a.length - k))).1.length = a.length - k:=by rw [gp.len,ZnF]; omega
  have gq:=YD gp.circ (a:=t.1.drop k) (b:=(seqP (partF (b.getD k 0)) t.2 (a.take (a.length - k))).1) (c:=-1) (by rw [gpl,Zoe,g.len]) (fun x hx=>litN_mono (g.lits x (ZoH hx)) gp.grow.lines) gp.lits (Yr gp.circ)
  have hmk:mk? (w64 ((a.length:Int) - (k:Int))) (0:Int) = some (List.replicate (a.length - k) 0):=by
   rw [Ze (by omega) (by omega)]
   unfold mk?
   rw [ZnC ⟨by omega,by unfold room; omega⟩]
   congr 2; omega
  obtain ⟨m2,h2,r2⟩:=impl_seq (fuel:=fuel) (f:=partF (b.getD k 0)) (l:=a.take (a.length - k)) (s:=t.2) (L0:=List.replicate (a.length - k) 0) (B:=fun (s2:Int × (List Int) × Int × Bool × (List D.Gate) × (List (D.Gate × Int)))=>
   if (decide (s2.1 < (len (List.replicate (a.length - k) (0:Int))))) then
    (get? b (k:Int)).bind fun x3=>
    (get? a s2.1).bind fun x4=>
    (Zi (D.builder.mk (D.Circuit.mk s2.2.2.1 s2.2.2.2.2.1) s2.2.2.2.2.2 s2.2.2.2.1) x3 x4).bind fun x5=>
    (set? s2.2.1 s2.1 x5.1).bind fun x6=>
    some (.inl ((w64 (s2.1 + 1)),x6,x5.2.c.Inputs,x5.2.full,x5.2.c.Gates,x5.2.line))
   else
    some (.inr (s2.2.1,s2.2.2.1,s2.2.2.2.1,s2.2.2.2.2.1,s2.2.2.2.2.2))) g.circ (by rw [ZnF]; omega) hok (by simp) (fun j L mm s' x hx hc hgr hrr hL hpre=>by
    have hj:j < a.length - k ∧ j < a.length:=by
     have:=(Zn9.1 hx).1
     rw [ZnF] at this; omega
    have hax:a[j]? = some x:=by rw [Zok] at hx; split at hx; exact hx; cases hx
    have hga:=g.grow.trans hgr
    obtain ⟨m3,e3,r3⟩:=Zan hrr hc (litN_mono (hb _ (getD_mem (k:=k) (by omega))) hga.lines) (litN_mono (ha _ (ZnN hax)) hga.lines)
    refine ⟨m3,?_,r3⟩
    simp only
    rw [ZnC (by rw [Za]; simp; omega),get?_nat,get?_nat,getD_get (l:=b) (by omega),hax]
    simp only [Zn4]
    have e3':Zi (D.builder.mk (D.Circuit.mk mm.c.Inputs mm.c.Gates) mm.line mm.full) (b.getD k 0) x = _:=e3
    rw [e3']
    simp only [Zn4]
    rw [set?_nat (by rw [hL,ZnF]; omega)]
    simp only [Zn4]
    rw [Ze (by omega) (by omega)]
    rfl) (fun L mm=>by
    simp only
    rw [ZnA (by rw [Za]; simp)]) hr
  obtain ⟨m3,h3,r3⟩:=ZbX (fuel:=fuel) (s:=(seqP (partF (b.getD k 0)) t.2 (a.take (a.length - k))).2) gp.circ r2 (a:=t.1.drop k) (b:=(seqP (partF (b.getD k 0)) t.2 (a.take (a.length - k))).1) (c:=-1) (by rw [Zoe,g.len]; omega) (by rw [gpl,Zoe,g.len]) (fun x hx=>litN_mono (g.lits x (ZoH hx)) gp.grow.lines) gp.lits (Yr gp.circ)
  refine ⟨_,?_,m3,rfl,r3⟩
  simp only
  rw [ZnC (by rw [Za]; simp; omega),hmk]
  simp only [Zn4]
  rw [h2]
  simp only [Zn4]
  have hcr:=Zlg (l:=t.1) (k:=k) (by rw [g.len]; omega)
  rw [hcr]
  simp only [Zn4]
  have h3':ZG fuel (D.builder.mk (D.Circuit.mk m2.c.Inputs m2.c.Gates) m2.line m2.full) (t.1.drop k) (seqP (partF (b.getD k 0)) t.2 (a.take (a.length - k))).1 (-1) = _:=h3
  rw [h3']
  simp only [Zn4]
  rw [Zoe,Zhq (by rw [g.len]; omega) (by rw [gq.len,Zoe]),Ze (by omega) (by omega)]
  rfl
 ·obtain ⟨m1, rfl, hr⟩ := ht
  refine ⟨_,?_,m1,rfl,hr⟩
  simp only
  rw [ZnA (by rw [Za]; simp; omega)]
 ·obtain ⟨m', rfl, h2⟩ := hr
  exact ⟨_,rfl,m',rfl,h2⟩
end
section
variable {α σt ρt:Type}
theorem Zdy {f:BS → α → Int × BS} {l:List α} {s:BS} {B:σt → Option (σt ⊕ ρt)} (enc:Nat → List Int → D.builder → σt) (dec:List Int → D.builder → ρt) (hs:CircP s.1) (hl:l.length ≤ 1000) (hf:FOk f s l) {L0:List Int} (hL:L0.length = l.length)
  (hB:∀ (j:Nat) (L:List Int) (m:D.builder) (s':BS) (x:α),l[j]? = some x → CircP s'.1 → Grow s.1 s'.1 → RelB m s' → L.length = l.length → (∀ i,j ≤ i → L[i]? = L0[i]?) → ∃ m',B (enc j L m) = some (.inl (enc (j + 1) (L.set j (f s' x).1) m')) ∧ RelB m' (f s' x).2)
  (hE:∀ (L:List Int) (m:D.builder),B (enc l.length L m) = some (.inr (dec L m))) {m:D.builder} (hm:RelB m s) :
  ∃ m',iterN B fuel (enc 0 L0 m) = some (dec (seqP f s l).1 m') ∧ RelB m' (seqP f s l).2:=by
 have key:∃ r,iterN B fuel (enc 0 L0 m) = some r ∧ ∃ m':D.builder,r = dec (seqP f s l).1 m' ∧ RelB m' (seqP f s l).2:=by
  refine Zbi (B:=B) (I:=fun k t=>∃ m':D.builder,t = enc k ((seqP f s (l.take k)).1 ++ L0.drop k) m' ∧ RelB m' (seqP f s (l.take k)).2) (m:=l.length) (fun k t hk ht=>?_) (fun t ht=>?_) l.length 0 _ (by omega) ⟨m,rfl,hm⟩ fuel (lt_fuel (by omega))
  ·obtain ⟨m1, rfl, hr⟩ := ht
   have g:=Zbo hs hf k (by omega)
   obtain ⟨m2,h3,h4⟩:=hB k ((seqP f s (l.take k)).1 ++ L0.drop k) m1 (seqP f s (l.take k)).2 l[k] (Zn5 hk) g.circ g.grow hr (by rw [ZnD,g.len,Zoe]; omega) (fun i hi=>by rw [ZnH (by rw [g.len]; omega),g.len,ZoC]; congr 1; omega)
   refine ⟨_,h3,m2,?_,?_⟩
   ·rw [Zb6 (Zn5 hk),Zie g.len (by omega)]
   ·rw [Zb6 (Zn5 hk)]
    exact h4
  ·obtain ⟨m1, rfl, hr⟩ := ht
   refine ⟨_,hE _ m1,m1,?_,?_⟩
   ·rw [Zou,Zpe (by omega),Zoz]
   ·rw [Zou] at hr; exact hr
 obtain ⟨r,h1,m',rfl,h2⟩:=key
 exact ⟨m',h1,h2⟩
def accP (f:BS → Int → α → Int × BS) (s:BS) (c:Int) (l:List α):Int × BS:=l.foldl (fun t x=>f t.2 t.1 x) (c,s)
def AOk (f:BS → Int → α → Int × BS) (s:BS) (l:List α):Prop:=∀ s' c x,CircP s'.1 → Grow s.1 s'.1 → litN (lines s'.1) c = true → x ∈ l → Good s' (f s' c x)
theorem Zdq {f:BS → Int → α → Int × BS} {s:BS} {c:Int} {l:List α} (hs:CircP s.1) (hc:litN (lines s.1) c = true) (hf:AOk f s l):∀ k,k ≤ l.length → Good s (accP f s c (l.take k)):=
 Ze2 _ (fun _ t=>Good s t) l _ ⟨hs,Grow.refl _,hc⟩ fun k x t hx ht=>by
  have g:=hf t.2 t.1 x ht.circ ht.grow ht.lit (ZnN hx)
  exact ⟨g.circ,ht.grow.trans g.grow,g.lit⟩
theorem ZeE {f:BS → Int → α → Int × BS} {s:BS} {c:Int} {l:List α} (hs:CircP s.1) (hc:litN (lines s.1) c = true) (hf:AOk f s l):Good s (accP f s c l):=by
 have:=Zdq hs hc hf l.length (ZnK _)
 rw [Zou] at this
 exact this
theorem Zeg {f:BS → Int → α → Int × BS} {s:BS} {c:Int} {l:List α} {k:Nat} {x:α} (hx:l[k]? = some x):accP f s c (l.take (k + 1)) = f (accP f s c (l.take k)).2 (accP f s c (l.take k)).1 x:=by
 obtain ⟨hk,rfl⟩:=Zn9.1 hx
 unfold accP
 rw [ZnG hk,Zor]
 rfl
theorem Zfi {f:BS → Int → α → Int × BS} {l:List α} {s:BS} {c:Int} {B:σt → Option (σt ⊕ ρt)} (enc:Nat → Int → D.builder → σt) (dec:Int → D.builder → ρt) (hs:CircP s.1) (hc:litN (lines s.1) c = true) (hl:l.length ≤ 1000) (hf:AOk f s l)
  (hB:∀ (j:Nat) (c':Int) (m:D.builder) (s':BS) (x:α),l[j]? = some x → CircP s'.1 → Grow s.1 s'.1 → RelB m s' → litN (lines s'.1) c' = true → ∃ m',B (enc j c' m) = some (.inl (enc (j + 1) (f s' c' x).1 m')) ∧ RelB m' (f s' c' x).2)
  (hE:∀ (c':Int) (m:D.builder),B (enc l.length c' m) = some (.inr (dec c' m))) {m:D.builder} (hm:RelB m s) :
  ∃ m',iterN B fuel (enc 0 c m) = some (dec (accP f s c l).1 m') ∧ RelB m' (accP f s c l).2:=by
 have key:∃ r,iterN B fuel (enc 0 c m) = some r ∧ ∃ m':D.builder,r = dec (accP f s c l).1 m' ∧ RelB m' (accP f s c l).2:=by
  refine Zbi (B:=B) (I:=fun k t=>∃ m':D.builder,t = enc k (accP f s c (l.take k)).1 m' ∧ RelB m' (accP f s c (l.take k)).2) (m:=l.length) (fun k t hk ht=>?_) (fun t ht=>?_) l.length 0 _ (by omega) ⟨m,rfl,hm⟩ fuel (lt_fuel (by omega))
  ·obtain ⟨m1, rfl, hr⟩ := ht
   have g:=Zdq hs hc hf k (by omega)
   obtain ⟨m2,h3,h4⟩:=hB k _ m1 _ l[k] (Zn5 hk) g.circ g.grow hr g.lit
   refine ⟨_,h3,m2,?_,?_⟩
   ·rw [Zeg (Zn5 hk)]
   ·rw [Zeg (Zn5 hk)]
    exact h4
  ·obtain ⟨m1, rfl, hr⟩ := ht
   rw [Zou] at hr ⊢
   exact ⟨_,hE _ m1,m1,rfl,hr⟩
 obtain ⟨r,h1,m',rfl,h2⟩:=key
 exact ⟨m',h1,h2⟩
end
abbrev DS:=List Int × List Int × BS
def selF (c:Int):BS → Int × Int → Int × BS:=fun s p=>ifP s c p.1 p.2
def divStep (a less:List Int) (t:DS) (k:Nat):DS:=
 let d:=addP t.2.2 (a.getD k 0 :: t.1) less 1
 let q:=seqP (selF d.2.1) d.2.2 ((d.1.zip (a.getD k 0 :: t.1)).take a.length)
 (q.1,d.2.1 :: t.2.1,q.2)
def lessOf (b:List Int):List Int:=negs b ++ [1]
def divK (s:BS) (a b:List Int) (k:Nat):DS:=(List.range k).foldl (fun t i=>divStep a (lessOf b) t (a.length - 1 - i)) (List.replicate a.length (-1),[],s)
theorem divK_succ (s:BS) (a b:List Int) (k:Nat):divK s a b (k + 1) = divStep a (lessOf b) (divK s a b k) (a.length - 1 - k):=by
 unfold divK; rw [Zpg,Zor]; rfl
structure GoodD (s:BS) (w k:Nat) (t:DS):Prop where
 circ:CircP t.2.2.1
 grow:Grow s.1 t.2.2.1
 len:t.1.length = w
 lits:∀ x ∈ t.1,litN (lines t.2.2.1) x = true
 clen:t.2.1.length = k
 clits:∀ x ∈ t.2.1,litN (lines t.2.2.1) x = true
structure DivOk (a less:List Int) (t:DS) (k:Nat):Prop where
 ga:GoodA t.2.2 (a.length + 1) (addP t.2.2 (a.getD k 0 :: t.1) less 1)
 tl:∀ x ∈ a.getD k 0 :: t.1,litN (lines t.2.2.1) x = true
 ll:∀ x ∈ less,litN (lines t.2.2.1) x = true
 l1:litN (lines t.2.2.1) 1 = true
 fok:FOk (selF (addP t.2.2 (a.getD k 0 :: t.1) less 1).2.1) (addP t.2.2 (a.getD k 0 :: t.1) less 1).2.2 (((addP t.2.2 (a.getD k 0 :: t.1) less 1).1.zip (a.getD k 0 :: t.1)).take a.length)
 zl:(((addP t.2.2 (a.getD k 0 :: t.1) less 1).1.zip (a.getD k 0 :: t.1)).take a.length).length = a.length
section
variable {s:BS} {a b:List Int} (hab:a.length = b.length) (ha:∀ x ∈ a,litN (lines s.1) x = true) (hb:∀ x ∈ b,litN (lines s.1) x = true)
include hab ha hb
theorem Zhe {t:DS} {i:Nat} (g:GoodD s a.length i t) {k:Nat} (hk:k < a.length):DivOk a (lessOf b) t k:=by
 have htl:∀ x ∈ a.getD k 0 :: t.1,litN (lines t.2.2.1) x = true:=fun x hx=>by
  rcases Zof.1 hx with rfl | hx
  ·exact litN_mono (ha _ (getD_mem hk)) g.grow.lines
  ·exact g.lits x hx
 have hll:∀ x ∈ lessOf b,litN (lines t.2.2.1) x = true:=fun x hx=>by
  rcases ZnS.1 hx with hx | hx
  ·exact litN_mono (negs_lits hb x hx) g.grow.lines
  ·rw [ZnX.1 hx]; exact XD g.circ
 have hlen:(a.getD k 0 :: t.1).length = (lessOf b).length:=by simp [lessOf,negs_len,g.len,hab]
 have ga:=YD g.circ hlen htl hll (XD g.circ)
 have hw:(a.getD k 0 :: t.1).length = a.length + 1:=by simp [g.len]
 rw [hw] at ga
 refine ⟨ga,htl,hll,XD g.circ,fun s' p hc hgr hp=>?_,?_⟩
 ·have hp' := ZoV hp
  have h1:=Zqg hp'
  exact if_good hc (litN_mono ga.lit hgr.lines) (litN_mono (ga.lits _ h1.1) hgr.lines) (litN_mono (htl _ h1.2) (ga.grow.trans hgr).lines)
 ·rw [ZnF,Zo7,ga.len,hw]; omega
theorem Za6 (hs:CircP s.1) (k:Nat) (hk:k ≤ a.length):GoodD s a.length k (divK s a b k):=by
 induction k with
 | zero => exact ⟨hs, Grow.refl _, by simp [divK], fun x hx => by
   simp only [divK,Zq3,ZoY] at hx
   rw [ZqF hx]; exact Yr hs,rfl,fun x hx=>by cases hx⟩
 | succ k ih=>
  have g:=ih (by omega)
  rw [divK_succ]
  generalize divK s a b k = t at g ⊢
  have o:=Zhe hab ha hb g (k:=a.length - 1 - k) (by omega)
  have gq:=seq_good o.ga.circ o.fok
  rw [o.zl] at gq
  refine ⟨gq.circ,(g.grow.trans o.ga.grow).trans gq.grow,gq.len,gq.lits,by simp [divStep,g.clen],fun x hx=>?_⟩
  simp only [divStep,Zof] at hx
  rcases hx with rfl | hx
  ·exact litN_mono o.ga.lit gq.grow.lines
  ·exact litN_mono (g.clits x hx) (o.ga.grow.trans gq.grow).lines
end
theorem ZkD {q0 cs:List Int} {w k:Nat} {c:Int} (hq:q0.length = w) (hk:k < w):(q0.take (w - k) ++ cs).set (w - 1 - k) c = q0.take (w - (k + 1)) ++ (c :: cs):=by
 have e:w - k = (w - 1 - k) + 1:=by omega
 have hl:(q0.take (w - 1 - k)).length = w - 1 - k:=by rw [ZnF]; omega
 have hlt:w - 1 - k < q0.length:=by omega
 rw [e,ZnG hlt,Zoh,ZoL _ _ (by omega),hl,ZoR]
 rw [show w - (k + 1) = w - 1 - k by omega]
 rfl
section
variable {s:BS} (hs:CircP s.1) {a b:List Int} (hab:a.length = b.length) (hl:a.length ≤ 16) (ha:∀ x ∈ a,litN (lines s.1) x = true) (hb:∀ x ∈ b,litN (lines s.1) x = true)
include hs hab hl ha hb
theorem ZgR {m:D.builder} (hm:RelB m s):∃ m',Yo fuel m a b = some ((divK s a b a.length).2.1,(divK s a b a.length).1,m') ∧ RelB m' (divK s a b a.length).2.2:=by
 unfold Yo
 rw [mk?_len (by unfold room; omega)]
 simp only [Zn4]
 rw [Za,ZeV (by omega)]
 simp only [Zn4]
 rw [impl_opp hs.lines1 (by omega) hb]
 simp only [Zn4]
 rw [Zk6 (by rw [negs_len]; simp; omega)]
 simp only [Zn4]
 have hfin:∀ {X:Option (List Int × List Int × D.builder)} {u v:List Int} {s':BS},(∃ y,X = some y ∧ ∃ m',y = (u,v,m') ∧ RelB m' s') → ∃ m',X = some (u,v,m') ∧ RelB m' s':=fun ⟨y,h1,m',h2,h3⟩=>⟨m',by rw [h1,h2],h3⟩
 refine hfin ?_
 refine ZbF (I:=fun k t=>∃ m':D.builder,t = ((a.length:Int) - 1 - (k:Int),(List.replicate a.length 0).take (a.length - k) ++ (divK s a b k).2.1,(divK s a b k).1,m'.c.Inputs,m'.full,m'.c.Gates,m'.line) ∧ RelB m' (divK s a b k).2.2) (R:=fun r=>∃ m':D.builder,r = ((divK s a b a.length).2.1,(divK s a b a.length).1,m'.c.Inputs,m'.full,m'.c.Gates,m'.line) ∧ RelB m' (divK s a b a.length).2.2) (m:=a.length) (fun k t hk ht=>?_) (fun t ht=>?_) a.length 0 _ (by omega) ⟨m,by rw [Ze (by omega) (by omega)]; simp [divK],hm⟩ fuel (lt_fuel (by omega)) (fun r hr=>?_)
 ·obtain ⟨m1, rfl, hr⟩ := ht
  have g:=Za6 hab ha hb hs k (by omega)
  have o:=Zhe hab ha hb g (k:=a.length - 1 - k) (by omega)
  rw [divK_succ]
  generalize divK s a b k = t at g o hr ⊢
  have hidx:(a.length:Int) - 1 - (k:Int) = ((a.length - 1 - k:Nat):Int):=by omega
  have hlen:(a.getD (a.length - 1 - k) 0 :: t.1).length = (lessOf b).length:=by simp [lessOf,negs_len,g.len,hab]
  obtain ⟨m2,h2,r2⟩:=ZbX (fuel:=fuel) (s:=t.2.2) g.circ hr (a:=a.getD (a.length - 1 - k) 0 :: t.1) (b:=lessOf b) (c:=1) (by simp [g.len]; omega) hlen o.tl o.ll o.l1
  obtain ⟨m3,h3,r3⟩:=Zdy (fuel:=fuel) (f:=selF (addP t.2.2 (a.getD (a.length - 1 - k) 0 :: t.1) (lessOf b) 1).2.1) (s:=(addP t.2.2 (a.getD (a.length - 1 - k) 0 :: t.1) (lessOf b) 1).2.2) (l:=((addP t.2.2 (a.getD (a.length - 1 - k) 0 :: t.1) (lessOf b) 1).1.zip (a.getD (a.length - 1 - k) 0 :: t.1)).take a.length) (L0:=t.1) (B:=fun (s2:Int × (List Int) × Int × Bool × (List D.Gate) × (List (D.Gate × Int)))=>
    if (decide (s2.1 < (len (List.replicate a.length (-1:Int))))) then
     (get? (addP t.2.2 (a.getD (a.length - 1 - k) 0 :: t.1) (lessOf b) 1).1 s2.1).bind fun x9=>
     (get? ([a.getD (a.length - 1 - k) 0] ++ t.1) s2.1).bind fun x10=>
     (Zb (D.builder.mk (D.Circuit.mk s2.2.2.1 s2.2.2.2.2.1) s2.2.2.2.2.2 s2.2.2.2.1) (addP t.2.2 (a.getD (a.length - 1 - k) 0 :: t.1) (lessOf b) 1).2.1 x9 x10).bind fun x11=>
     (set? s2.2.1 s2.1 x11.1).bind fun x12=>
     some (.inl ((w64 (s2.1 + 1)),x12,x11.2.c.Inputs,x11.2.full,x11.2.c.Gates,x11.2.line))
    else
     some (.inr (s2.2.1,s2.2.2.1,s2.2.2.2.1,s2.2.2.2.2.1,s2.2.2.2.2.2))) (fun j L m=>((j:Int),L,m.c.Inputs,m.full,m.c.Gates,m.line)) (fun L m=>(L,m.c.Inputs,m.full,m.c.Gates,m.line)) o.ga.circ (by rw [o.zl]; omega) o.fok (by rw [o.zl,g.len]) (fun j L mm s' x hx hc hgr hrr hL hpre=>by
    have hj:j < a.length:=by
     have:=(Zn9.1 hx).1
     rw [o.zl] at this; exact this
    have hx':((addP t.2.2 (a.getD (a.length - 1 - k) 0 :: t.1) (lessOf b) 1).1.zip (a.getD (a.length - 1 - k) 0 :: t.1))[j]? = some x:=by
     rw [Zok,ZnC hj] at hx; exact hx
    have hz:=zip_mem hx'
    have h1:=o.ga.lits _ (ZnN hz.1)
    have h2:=o.tl _ (ZnN hz.2)
    obtain ⟨m4,e4,r4⟩:=impl_if hc (c:=(addP t.2.2 (a.getD (a.length - 1 - k) 0 :: t.1) (lessOf b) 1).2.1) (a:=x.1) (b:=x.2) (litN_mono o.ga.lit hgr.lines) (litN_mono h1 hgr.lines) (litN_mono h2 (o.ga.grow.trans hgr).lines) mm hrr
    refine ⟨m4,?_,r4⟩
    have hz2:([a.getD (a.length - 1 - k) 0] ++ t.1)[j]? = some x.2:=hz.2
    simp only
    rw [ZnC (by rw [Za]; simp; omega),get?_nat,get?_nat,hz.1,hz2]
    simp only [Zn4]
    have e4':Zb (D.builder.mk (D.Circuit.mk mm.c.Inputs mm.c.Gates) mm.line mm.full) (addP t.2.2 (a.getD (a.length - 1 - k) 0 :: t.1) (lessOf b) 1).2.1 x.1 x.2 = _:=e4
    rw [e4']
    simp only [Zn4]
    rw [set?_nat (by rw [hL,o.zl]; exact hj)]
    simp only [Zn4]
    rw [Ze (by omega) (by omega)]
    rfl) (fun L mm=>by
    simp only
    rw [o.zl,ZnA (by rw [Za]; simp)]) r2
  refine ⟨_,?_,m3,rfl,r3⟩
  simp only
  rw [ZnC (by simp; omega),hidx,get?_nat,getD_get (l:=a) (by omega)]
  simp only [Zn4]
  rw [Zk6 (by simp [g.len]; omega)]
  simp only [Zn4]
  have h2':ZG fuel (D.builder.mk (D.Circuit.mk m1.c.Inputs m1.c.Gates) m1.line m1.full) ([a.getD (a.length - 1 - k) 0] ++ t.1) (negs b ++ [1]) 1 = _:=h2
  rw [h2']
  simp only [Zn4]
  rw [set?_nat (by simp [g.clen]; omega),ZkD (by simp) hk]
  simp only [Zn4]
  have h3':=h3
  simp only [ZpP] at h3'
  rw [h3']
  simp only [Zn4]
  rw [Ze (by omega) (by omega)]
  simp only [Option.some.injEq,Sum.inl.injEq,Prod.mk.injEq]
  exact ⟨by omega,rfl,rfl,trivial⟩
 ·obtain ⟨m1, rfl, hr⟩ := ht
  refine ⟨_,?_,m1,rfl,hr⟩
  simp only
  rw [ZnA (by simp; omega)]
  simp
 ·obtain ⟨m', rfl, h2⟩ := hr
  exact ⟨_,rfl,m',rfl,h2⟩
end
end Go.Proofs.YthlolmkdppfioaaGreat.Cc
end
section
namespace Go.Proofs.YthlolmkdppfioaaGreat.Cc
open Go.GL
variable {fuel:Nat} [FU fuel]
def lg (w:Nat):Nat:=if w ≤ 1 then 0 else if w ≤ 2 then 1 else if w ≤ 4 then 2 else if w ≤ 8 then 3 else 4
theorem ZkG:∀ w,w < 16 → ∀ k,k < 16 → (2 ^ k < w ↔ k < lg w):=by decide
theorem ZgX:∀ w,w < 16 → 1 ≤ w → lg w < w:=by decide
theorem Zny (w:Nat):lg w ≤ 4:=by
 unfold lg
 split; omega
 split; omega
 split; omega
 split <;> omega
theorem Zmy:∀ k:Nat,k < 16 → shl? 1 (k:Int) = some ((2 ^ k:Nat):Int):=by decide
theorem u64k {k:Nat} (h:k < 1000):IntKind.u64.wrap (k:Int) = k:=by unfold IntKind.wrap; simp [IntKind.bits,IntKind.signed]; omega
def pick (L:Bool) (d:Nat) (fill:Int) (out:List Int) (j:Nat):Int:=
 if L then (if d ≤ j then out.getD (j - d) 0 else fill) else (if j + d < out.length then out.getD (j + d) 0 else fill)
theorem Zgz {L:Bool} {d:Nat} {fill:Int} {out:List Int} {j:Nat} (hj:j < out.length):pick L d fill out j = fill ∨ pick L d fill out j ∈ out:=by
 unfold pick
 cases L
 ·simp only [Zn6, ZnI]
  split
  ·exact .inr (getD_mem (by assumption))
  ·exact .inl rfl
 ·simp only [ZnV]
  split
  ·exact .inr (getD_mem (by omega))
  ·exact .inl rfl
def shPairs (L:Bool) (d:Nat) (fill:Int) (out:List Int):List (Int × Int):=(List.range out.length).map fun j=>(pick L d fill out j,out.getD j 0)
theorem XJ {L:Bool} {d:Nat} {fill:Int} {out:List Int}:(shPairs L d fill out).length = out.length:=by simp [shPairs]
theorem Zb7 {L:Bool} {d:Nat} {fill:Int} {out:List Int} {j:Nat} {x:Int × Int} (h:(shPairs L d fill out)[j]? = some x):j < out.length ∧ x = (pick L d fill out j,out.getD j 0):=by
 have hj:j < out.length:=by have:=(Zn9.1 h).1; rwa [XJ] at this
 refine ⟨hj,?_⟩
 unfold shPairs at h
 rw [ZnW,Zp2 hj] at h
 exact (Option.some.inj h).symm
def shStep (L:Bool) (fill:Int) (b:List Int) (t:LS) (k:Nat):LS:=seqP (selF (b.getD k 0)) t.2 (shPairs L (2 ^ k) fill t.1)
def shK (s:BS) (a b:List Int) (L:Bool) (fill:Int) (k:Nat):LS:=(List.range k).foldl (shStep L fill b) (a,s)
theorem shK_succ (s:BS) (a b:List Int) (L:Bool) (fill:Int) (k:Nat):shK s a b L fill (k + 1) = shStep L fill b (shK s a b L fill k) k:=by
 unfold shK; rw [Zpg,Zor]; rfl
def orF:BS → Int → Int → Int × BS:=fun s c x=>orP s c x
def finF (c fill:Int):BS → Int → Int × BS:=fun s x=>ifP s c fill x
def shFar (s:BS) (a b:List Int) (L:Bool) (fill:Int):Int × BS:=accP orF (shK s a b L fill (lg a.length)).2 (-1) (b.drop (lg a.length))
def shP (s:BS) (a b:List Int) (L:Bool) (fill:Int):LS:=seqP (finF (shFar s a b L fill).1 fill) (shFar s a b L fill).2 (shK s a b L fill (lg a.length)).1
section
variable {s:BS} {a b:List Int} {L:Bool} {fill:Int} (hab:a.length = b.length) (hl:a.length ≤ 15) (ha:∀ x ∈ a,litN (lines s.1) x = true) (hb:∀ x ∈ b,litN (lines s.1) x = true) (hf:litN (lines s.1) fill = true)
include hab hl ha hb hf
omit hl ha in
theorem Zkw {t:LS} (g:GoodL s a.length t) {k:Nat} (hk:k < a.length) (d:Nat):FOk (selF (b.getD k 0)) t.2 (shPairs L d fill t.1):=by
 intro s' p hc hgr hp
 obtain ⟨j,hj⟩:=Zpz hp
 obtain ⟨hj',rfl⟩:=Zb7 hj
 have e:=g.grow.trans hgr
 refine if_good hc (litN_mono (hb _ (getD_mem (by omega))) e.lines) ?_ (litN_mono (g.lits _ (getD_mem hj')) hgr.lines)
 rcases Zgz (L:=L) (d:=d) (fill:=fill) hj' with h | h
 ·simp only [h]; exact litN_mono hf e.lines
 ·exact litN_mono (g.lits _ h) hgr.lines
omit hl in
theorem Zbw (hs:CircP s.1) (k:Nat) (hk:k ≤ a.length):GoodL s a.length (shK s a b L fill k):=by
 induction k with
 | zero=>exact ⟨hs,Grow.refl _,rfl,ha⟩
 | succ k ih=>
  have g:=ih (by omega)
  rw [shK_succ]
  generalize shK s a b L fill k = t at g ⊢
  have o:=Zkw hab hb hf g (k:=k) (by omega) (L:=L) (2 ^ k)
  have gq:=seq_good g.circ o
  rw [XJ,g.len] at gq
  exact ⟨gq.circ,g.grow.trans gq.grow,gq.len,gq.lits⟩
omit hab hl ha hf in
theorem Zh0 {t:LS} (g:GoodL s a.length t) (k:Nat):AOk orF t.2 (b.drop k):=by
 intro s' c x hc hgr hlc hx
 exact Zbr hc hlc (litN_mono (hb _ (ZoH hx)) (g.grow.trans hgr).lines)
theorem Zdg (hs:CircP s.1) (hw:1 ≤ a.length):Good (shK s a b L fill (lg a.length)).2 (shFar s a b L fill):=by
 have g:=Zbw hab ha hb hf hs (L:=L) (lg a.length) (by have:=ZgX a.length (by omega) hw; omega)
 exact ZeE g.circ (Yr g.circ) (Zh0 hb g _)
theorem fin_ok (hs:CircP s.1) (hw:1 ≤ a.length):FOk (finF (shFar s a b L fill).1 fill) (shFar s a b L fill).2 (shK s a b L fill (lg a.length)).1:=by
 have g:=Zbw hab ha hb hf hs (L:=L) (lg a.length) (by have:=ZgX a.length (by omega) hw; omega)
 have gf:=Zdg hab hl ha hb hf hs hw (L:=L)
 intro s' x hc hgr hx
 exact if_good hc (litN_mono gf.lit hgr.lines) (litN_mono hf ((g.grow.trans gf.grow).trans hgr).lines) (litN_mono (g.lits _ hx) (gf.grow.trans hgr).lines)
theorem Zbj (hs:CircP s.1) (hw:1 ≤ a.length):GoodL s a.length (shP s a b L fill):=by
 have g:=Zbw hab ha hb hf hs (L:=L) (lg a.length) (by have:=ZgX a.length (by omega) hw; omega)
 have gf:=Zdg hab hl ha hb hf hs hw (L:=L)
 have gq:=seq_good gf.circ (fin_ok hab hl ha hb hf hs hw)
 rw [g.len] at gq
 exact ⟨gq.circ,(g.grow.trans gf.grow).trans gq.grow,gq.len,gq.lits⟩
end
theorem ZmR {L:Bool} {d j:Nat} {fill:Int} {out:List Int} (hd:d ≤ 40000) (hj:j < out.length) (hl:out.length ≤ 15) :
  (∃ i:Nat,i < out.length ∧ (cond L (w64 ((j:Int) - (d:Int))) (w64 ((j:Int) + (d:Int)))) = (i:Int) ∧ pick L d fill out j = out.getD i 0) ∨
  (((cond L (w64 ((j:Int) - (d:Int))) (w64 ((j:Int) + (d:Int)))) < 0 ∨ (out.length:Int) ≤ (cond L (w64 ((j:Int) - (d:Int))) (w64 ((j:Int) + (d:Int))))) ∧ pick L d fill out j = fill):=by
 cases L
 ·simp only [cond_false]
  rw [Ze (by omega) (by omega)]
  by_cases h:j + d < out.length
  ·exact .inl ⟨j + d,h,by omega,by simp [pick,h]⟩
  ·exact .inr ⟨.inr (by omega),by simp [pick,h]⟩
 ·simp only [cond_true]
  rw [Ze (by omega) (by omega)]
  by_cases h:d ≤ j
  ·exact .inl ⟨j - d,by omega,by omega,by simp [pick,h]⟩
  ·exact .inr ⟨.inl (by omega),by simp [pick,h]⟩
section
variable {s:BS} (hs:CircP s.1) {a b:List Int} {op fill:Int} (hab:a.length = b.length) (hl:a.length ≤ 15) (hw:1 ≤ a.length) (ha:∀ x ∈ a,litN (lines s.1) x = true) (hb:∀ x ∈ b,litN (lines s.1) x = true) (hf:litN (lines s.1) fill = true)
include hs hab hl hw ha hb hf
theorem ZbW {m:D.builder} (hm:RelB m s):∃ m',(
  (Zc a).bind fun x2 =>
  (iterN (fun (s1 : Int × (List Int) × Int × Bool × (List D.Gate) × (List (D.Gate × Int))) =>
   (if (decide (s1.1 < (len a))) then (shl? 1 (IntKind.u64.wrap s1.1)) else some default).bind fun x3=>
   if ((decide (s1.1 < (len a))) && (decide (x3 < (len a)))) then
    (Zc s1.2.1).bind fun x4 =>
    (iterN (fun (s2 : Int × (List Int) × Int × Bool × (List D.Gate) × (List (D.Gate × Int))) =>
     if (decide (s2.1 < (len s1.2.1))) then
      (shl? 1 (IntKind.u64.wrap s1.1)).bind fun x5=>
      if (op == 11) then
       (shl? 1 (IntKind.u64.wrap s1.1)).bind fun x6=>
       if ((decide ((w64 (s2.1 - x6)) ≥ 0)) && (decide ((w64 (s2.1 - x6)) < (len a)))) then
        (get? x4 (w64 (s2.1 - x6))).bind fun x7=>
        (get? b s1.1).bind fun x8=>
        (get? x4 s2.1).bind fun x9=>
        (Zb (D.builder.mk (D.Circuit.mk s2.2.2.1 s2.2.2.2.2.1) s2.2.2.2.2.2 s2.2.2.2.1) x8 x7 x9).bind fun x10=>
        (set? s2.2.1 s2.1 x10.1).bind fun x11=>
        some (.inl ((w64 (s2.1 + 1)),x11,x10.2.c.Inputs,x10.2.full,x10.2.c.Gates,x10.2.line))
       else
        (get? b s1.1).bind fun x12=>
        (get? x4 s2.1).bind fun x13=>
        (Zb (D.builder.mk (D.Circuit.mk s2.2.2.1 s2.2.2.2.2.1) s2.2.2.2.2.2 s2.2.2.2.1) x12 fill x13).bind fun x14=>
        (set? s2.2.1 s2.1 x14.1).bind fun x15=>
        some (.inl ((w64 (s2.1 + 1)),x15,x14.2.c.Inputs,x14.2.full,x14.2.c.Gates,x14.2.line))
      else
       if ((decide ((w64 (s2.1 + x5)) ≥ 0)) && (decide ((w64 (s2.1 + x5)) < (len a)))) then
        (get? x4 (w64 (s2.1 + x5))).bind fun x16=>
        (get? b s1.1).bind fun x17=>
        (get? x4 s2.1).bind fun x18=>
        (Zb (D.builder.mk (D.Circuit.mk s2.2.2.1 s2.2.2.2.2.1) s2.2.2.2.2.2 s2.2.2.2.1) x17 x16 x18).bind fun x19=>
        (set? s2.2.1 s2.1 x19.1).bind fun x20=>
        some (.inl ((w64 (s2.1 + 1)),x20,x19.2.c.Inputs,x19.2.full,x19.2.c.Gates,x19.2.line))
       else
        (get? b s1.1).bind fun x21=>
        (get? x4 s2.1).bind fun x22=>
        (Zb (D.builder.mk (D.Circuit.mk s2.2.2.1 s2.2.2.2.2.1) s2.2.2.2.2.2 s2.2.2.2.1) x21 fill x22).bind fun x23=>
        (set? s2.2.1 s2.1 x23.1).bind fun x24=>
        some (.inl ((w64 (s2.1 + 1)),x24,x23.2.c.Inputs,x23.2.full,x23.2.c.Gates,x23.2.line))
     else
      some (.inr (s2.2.1,s2.2.2.1,s2.2.2.2.1,s2.2.2.2.2.1,s2.2.2.2.2.2))
    ) fuel (0,s1.2.1,s1.2.2.1,s1.2.2.2.1,s1.2.2.2.2.1,s1.2.2.2.2.2)).bind fun (rl2:(List Int) × Int × Bool × (List D.Gate) × (List (D.Gate × Int)))=>
    some (.inl ((w64 (s1.1 + 1)),rl2.1,rl2.2.1,rl2.2.2.1,rl2.2.2.2.1,rl2.2.2.2.2))
   else
    some (.inr (s1.1,s1.2.1,s1.2.2.1,s1.2.2.2.1,s1.2.2.2.2.1,s1.2.2.2.2.2))
  ) fuel (0,x2,m.c.Inputs,m.full,m.c.Gates,m.line)).bind fun (rl1:Int × (List Int) × Int × Bool × (List D.Gate) × (List (D.Gate × Int)))=>
  if (decide (rl1.1 < (len a))) then
   (iterN (fun (s3 : Int × Int × Int × Bool × (List D.Gate) × (List (D.Gate × Int))) =>
    if (decide (s3.1 < (len a))) then
     (get? b s3.1).bind fun x25=>
     (Zu (D.builder.mk (D.Circuit.mk s3.2.2.1 s3.2.2.2.2.1) s3.2.2.2.2.2 s3.2.2.2.1) s3.2.1 x25).bind fun x26=>
     some (.inl ((w64 (s3.1 + 1)),x26.1,x26.2.c.Inputs,x26.2.full,x26.2.c.Gates,x26.2.line))
    else
     some (.inr (s3.2.1,s3.2.2.1,s3.2.2.2.1,s3.2.2.2.2.1,s3.2.2.2.2.2))
   ) fuel (rl1.1,(-1),rl1.2.2.1,rl1.2.2.2.1,rl1.2.2.2.2.1,rl1.2.2.2.2.2)).bind fun (rl3:Int × Int × Bool × (List D.Gate) × (List (D.Gate × Int))) =>
   (iterN (fun (s4 : Int × (List Int) × Int × Bool × (List D.Gate) × (List (D.Gate × Int))) =>
    if (decide (s4.1 < (len rl1.2.1))) then
     (get? s4.2.1 s4.1).bind fun x27=>
     (Zb (D.builder.mk (D.Circuit.mk s4.2.2.1 s4.2.2.2.2.1) s4.2.2.2.2.2 s4.2.2.2.1) rl3.1 fill x27).bind fun x28=>
     (set? s4.2.1 s4.1 x28.1).bind fun x29=>
     some (.inl ((w64 (s4.1 + 1)),x29,x28.2.c.Inputs,x28.2.full,x28.2.c.Gates,x28.2.line))
    else
     some (.inr (s4.2.1,s4.2.2.1,s4.2.2.2.1,s4.2.2.2.2.1,s4.2.2.2.2.2))
   ) fuel (0,rl1.2.1,rl3.2.1,rl3.2.2.1,rl3.2.2.2.1,rl3.2.2.2.2)).bind fun (rl4:(List Int) × Int × Bool × (List D.Gate) × (List (D.Gate × Int)))=>
   some (rl4.1,(D.builder.mk (D.Circuit.mk rl4.2.1 rl4.2.2.2.1) rl4.2.2.2.2 rl4.2.2.1))
  else
   some (rl1.2.1,(D.builder.mk (D.Circuit.mk rl1.2.2.1 rl1.2.2.2.2.1) rl1.2.2.2.2.2 rl1.2.2.2.1))) = some ((shP s a b (op == 11) fill).1,m') ∧ RelB m' (shP s a b (op == 11) fill).2:=by
 generalize hL:(op == 11) = L
 have hlg:=ZgX a.length (by omega) hw
 have gl:=Zbw hab ha hb hf hs (L:=L) (lg a.length) (by omega)
 have hcl:∀ l:List Int,l.length ≤ 1000 → Zc l = some l:=fun l h=>by unfold Zc; rw [ZiK h]; rfl
 rw [hcl a (by omega)]
 simp only [Zn4]
 refine ZiC ?_
 refine ZbF (I:=fun k t=>∃ m':D.builder,t = ((k:Int),(shK s a b L fill k).1,m'.c.Inputs,m'.full,m'.c.Gates,m'.line) ∧ RelB m' (shK s a b L fill k).2) (R:=fun r=>∃ m':D.builder,r = (((lg a.length:Nat):Int),(shK s a b L fill (lg a.length)).1,m'.c.Inputs,m'.full,m'.c.Gates,m'.line) ∧ RelB m' (shK s a b L fill (lg a.length)).2) (m:=lg a.length) (fun k t hk ht=>?_) (fun t ht=>?_) (lg a.length) 0 _ (by omega) ⟨m,rfl,hm⟩ fuel (lt_fuel (by have:=Zny a.length; omega)) (fun r hr=>?_)
 ·obtain ⟨m1, rfl, hr⟩ := ht
  have g:=Zbw hab ha hb hf hs (L:=L) k (by omega)
  have o:=Zkw hab hb hf g (k:=k) (by omega) (L:=L) (2 ^ k)
  rw [shK_succ]
  generalize shK s a b L fill k = t at g o hr ⊢
  have hln:=g.len
  have hp:2 ^ k < a.length:=by rw [ZkG _ (by omega) _ (by omega)]; omega
  have hsh:shl? 1 (IntKind.u64.wrap (k:Int)) = some ((2 ^ k:Nat):Int):=by rw [u64k (by omega),Zmy _ (by omega)]
  have hkl:decide ((k:Int) < len a) = true:=by rw [Za]; simp; omega
  have hpl:decide (((2 ^ k:Nat):Int) < len a) = true:=by rw [Za,ZnO]; exact Int.ofNat_lt.2 hp
  simp only [hkl,ZnV,hsh,Zn4,hpl,ZqK]
  rw [hcl t.1 (by omega)]
  simp only [Zn4]
  rw [show len t.1 = len a by rw [Za,Za,g.len]]
  obtain ⟨m3,h3,r3⟩:=Zdy (fuel:=fuel) (f:=selF (b.getD k 0)) (s:=t.2) (l:=shPairs L (2 ^ k) fill t.1) (L0:=t.1) (B:=(fun (s2:Int × (List Int) × Int × Bool × (List D.Gate) × (List (D.Gate × Int)))=>
     if (decide (s2.1 < (len a))) then
      (shl? 1 (IntKind.u64.wrap (k:Int))).bind fun x5=>
      if L then
       (shl? 1 (IntKind.u64.wrap (k:Int))).bind fun x6=>
       if ((decide ((w64 (s2.1 - x6)) ≥ 0)) && (decide ((w64 (s2.1 - x6)) < (len a)))) then
        (get? t.1 (w64 (s2.1 - x6))).bind fun x7=>
        (get? b (k:Int)).bind fun x8=>
        (get? t.1 s2.1).bind fun x9=>
        (Zb (D.builder.mk (D.Circuit.mk s2.2.2.1 s2.2.2.2.2.1) s2.2.2.2.2.2 s2.2.2.2.1) x8 x7 x9).bind fun x10=>
        (set? s2.2.1 s2.1 x10.1).bind fun x11=>
        some (.inl ((w64 (s2.1 + 1)),x11,x10.2.c.Inputs,x10.2.full,x10.2.c.Gates,x10.2.line))
       else
        (get? b (k:Int)).bind fun x12=>
        (get? t.1 s2.1).bind fun x13=>
        (Zb (D.builder.mk (D.Circuit.mk s2.2.2.1 s2.2.2.2.2.1) s2.2.2.2.2.2 s2.2.2.2.1) x12 fill x13).bind fun x14=>
        (set? s2.2.1 s2.1 x14.1).bind fun x15=>
        some (.inl ((w64 (s2.1 + 1)),x15,x14.2.c.Inputs,x14.2.full,x14.2.c.Gates,x14.2.line))
      else
       if ((decide ((w64 (s2.1 + x5)) ≥ 0)) && (decide ((w64 (s2.1 + x5)) < (len a)))) then
        (get? t.1 (w64 (s2.1 + x5))).bind fun x16=>
        (get? b (k:Int)).bind fun x17=>
        (get? t.1 s2.1).bind fun x18=>
        (Zb (D.builder.mk (D.Circuit.mk s2.2.2.1 s2.2.2.2.2.1) s2.2.2.2.2.2 s2.2.2.2.1) x17 x16 x18).bind fun x19=>
        (set? s2.2.1 s2.1 x19.1).bind fun x20=>
        some (.inl ((w64 (s2.1 + 1)),x20,x19.2.c.Inputs,x19.2.full,x19.2.c.Gates,x19.2.line))
       else
        (get? b (k:Int)).bind fun x21=>
        (get? t.1 s2.1).bind fun x22=>
        (Zb (D.builder.mk (D.Circuit.mk s2.2.2.1 s2.2.2.2.2.1) s2.2.2.2.2.2 s2.2.2.2.1) x21 fill x22).bind fun x23=>
        (set? s2.2.1 s2.1 x23.1).bind fun x24=>
        some (.inl ((w64 (s2.1 + 1)),x24,x23.2.c.Inputs,x23.2.full,x23.2.c.Gates,x23.2.line))
     else
      some (.inr (s2.2.1,s2.2.2.1,s2.2.2.2.1,s2.2.2.2.2.1,s2.2.2.2.2.2)))) (fun j L m=>((j:Int),L,m.c.Inputs,m.full,m.c.Gates,m.line)) (fun L m=>(L,m.c.Inputs,m.full,m.c.Gates,m.line)) g.circ (by rw [XJ]; omega) o (by rw [XJ]) (fun j Lj mm s' x hx hc hgr hrr hLl hpre=>by
    obtain ⟨hj,rfl⟩:=Zb7 hx
    rw [XJ] at hLl
    have e:=g.grow.trans hgr
    have hbk:=litN_mono (hb _ (getD_mem (l:=b) (k:=k) (by omega))) e.lines
    have hoj:=litN_mono (g.lits _ (getD_mem hj)) hgr.lines
    simp only
    rw [ZnC (by rw [Za]; simp; omega),hsh]
    simp only [Zn4]
    rcases ZmR (L:=L) (d:=2 ^ k) (j:=j) (fill:=fill) (out:=t.1) (by omega) hj (by omega) with ⟨i,hi,h1,h2⟩ | ⟨h1,h2⟩
    ·obtain ⟨m4, e4, r4⟩ := impl_if hc (c := b.getD k 0) (a := t.1.getD i 0) (b := t.1.getD j 0) hbk (litN_mono (g.lits _ (getD_mem hi)) hgr.lines) hoj mm hrr
     have e4':Zb (D.builder.mk (D.Circuit.mk mm.c.Inputs mm.c.Gates) mm.line mm.full) (b.getD k 0) (t.1.getD i 0) (t.1.getD j 0) = _:=e4
     refine ⟨m4,?_,by unfold selF; simp only [h2]; exact r4⟩
     have hin:(decide ((i:Int) ≥ 0) && decide ((i:Int) < len a)) = true:=by rw [Za]; simp; omega
     cases L
     ·simp only [cond_false] at h1
      simp only [Zn6,ZnI,h1,hin,ZnV]
      rw [get?_nat,get?_nat,get?_nat,getD_get hi,getD_get (l:=b) (by omega),getD_get hj]
      simp only [Zn4]
      rw [e4']
      simp only [Zn4]
      rw [set?_nat (by omega)]
      simp only [Zn4]
      rw [Ze (by omega) (by omega)]
      unfold selF
      simp only [h2]
      rfl
     ·simp only [cond_true] at h1
      simp only [ZnV,h1,hin]
      rw [get?_nat,get?_nat,get?_nat,getD_get hi,getD_get (l:=b) (by omega),getD_get hj]
      simp only [Zn4]
      rw [e4']
      simp only [Zn4]
      rw [set?_nat (by omega)]
      simp only [Zn4]
      rw [Ze (by omega) (by omega)]
      unfold selF
      simp only [h2]
      rfl
    ·obtain ⟨m4, e4, r4⟩ := impl_if hc (c := b.getD k 0) (a := fill) (b := t.1.getD j 0) hbk (litN_mono hf e.lines) hoj mm hrr
     have e4':Zb (D.builder.mk (D.Circuit.mk mm.c.Inputs mm.c.Gates) mm.line mm.full) (b.getD k 0) fill (t.1.getD j 0) = _:=e4
     refine ⟨m4,?_,by unfold selF; simp only [h2]; exact r4⟩
     have hin:∀ z:Int,(z < 0 ∨ (t.1.length:Int) ≤ z) → (decide (z ≥ 0) && decide (z < len a)) = false:=by
      intro z hz
      rw [Za]; simp; omega
     cases L
     ·simp only [cond_false] at h1
      simp only [Zn6,ZnI,hin _ h1]
      rw [get?_nat,get?_nat,getD_get (l:=b) (by omega),getD_get hj]
      simp only [Zn4]
      rw [e4']
      simp only [Zn4]
      rw [set?_nat (by omega)]
      simp only [Zn4]
      rw [Ze (by omega) (by omega)]
      unfold selF
      simp only [h2]
      rfl
     ·simp only [cond_true] at h1
      simp only [ZnV,hin _ h1,Zn6,ZnI]
      rw [get?_nat,get?_nat,getD_get (l:=b) (by omega),getD_get hj]
      simp only [Zn4]
      rw [e4']
      simp only [Zn4]
      rw [set?_nat (by omega)]
      simp only [Zn4]
      rw [Ze (by omega) (by omega)]
      unfold selF
      simp only [h2]
      rfl) (fun L mm=>by
    simp only
    rw [ZnA (by rw [Za,XJ,g.len]; simp)]) hr
  simp only [ZpP,hsh,Zn4] at h3
  refine ⟨_,?_,m3,rfl,r3⟩
  rw [h3]
  simp only [Zn4]
  rw [Ze (by omega) (by omega)]
  rfl
 ·obtain ⟨m1, rfl, hr⟩ := ht
  refine ⟨_,?_,m1,rfl,hr⟩
  have hp:¬ 2 ^ lg a.length < a.length:=by rw [ZkG _ (by omega) _ (by omega)]; omega
  have hsh:shl? 1 (IntKind.u64.wrap ((lg a.length:Nat):Int)) = some ((2 ^ lg a.length:Nat):Int):=by rw [u64k (by omega),Zmy _ (by omega)]
  have hkl:decide (((lg a.length:Nat):Int) < len a) = true:=by rw [Za]; simp; omega
  have hpl:decide (((2 ^ lg a.length:Nat):Int) < len a) = false:=by rw [Za,decide_eq_false_iff_not]; exact fun h=>hp (Int.ofNat_lt.1 h)
  simp only [hkl,ZnV,hsh,Zn4,hpl,Zqs,Zn6,ZnI]
 ·obtain ⟨m1, rfl, hr⟩ := hr
  have gf:=Zdg hab hl ha hb hf hs hw (L:=L)
  simp only
  rw [show len (shK s a b L fill (lg a.length)).1 = len a by rw [Za,Za,gl.len]]
  rw [ZnC (by rw [Za]; simp; omega)]
  obtain ⟨m2,h2,r2⟩:=Zfi (fuel:=fuel) (f:=orF) (l:=b.drop (lg a.length)) (s:=(shK s a b L fill (lg a.length)).2) (c:=-1) (B:=(fun (s3:Int × Int × Int × Bool × (List D.Gate) × (List (D.Gate × Int)))=>
    if (decide (s3.1 < (len a))) then
     (get? b s3.1).bind fun x25=>
     (Zu (D.builder.mk (D.Circuit.mk s3.2.2.1 s3.2.2.2.2.1) s3.2.2.2.2.2 s3.2.2.2.1) s3.2.1 x25).bind fun x26=>
     some (.inl ((w64 (s3.1 + 1)),x26.1,x26.2.c.Inputs,x26.2.full,x26.2.c.Gates,x26.2.line))
    else
     some (.inr (s3.2.1,s3.2.2.1,s3.2.2.2.1,s3.2.2.2.2.1,s3.2.2.2.2.2)))) (fun j c m=>(((lg a.length + j:Nat):Int),c,m.c.Inputs,m.full,m.c.Gates,m.line)) (fun c m=>(c,m.c.Inputs,m.full,m.c.Gates,m.line)) gl.circ (Yr gl.circ) (by rw [Zoe]; omega) (Zh0 hb gl _) (fun j c mm s' x hx hc hgr hrr hlc=>by
    have hj:lg a.length + j < b.length ∧ b[lg a.length + j]? = some x:=by
     rw [ZoC] at hx
     exact ⟨(Zn9.1 hx).1,hx⟩
    obtain ⟨m4,e4,r4⟩:=ZdZ hc hlc (litN_mono (hb _ (ZnN hj.2)) (gl.grow.trans hgr).lines) mm hrr
    have e4':Zu (D.builder.mk (D.Circuit.mk mm.c.Inputs mm.c.Gates) mm.line mm.full) c x = _:=e4
    refine ⟨m4,?_,r4⟩
    simp only
    rw [ZnC (by rw [Za]; simp; omega),get?_nat,hj.2]
    simp only [Zn4]
    rw [e4']
    simp only [Zn4]
    rw [Ze (by omega) (by omega)]
    rfl) (fun c mm=>by
    simp only
    rw [ZnA (by rw [Za,Zoe]; simp; omega)]) hr
  simp only [ZoQ] at h2
  rw [h2]
  simp only [Zn4]
  obtain ⟨m3,h3,r3⟩:=Zdy (fuel:=fuel) (f:=finF (shFar s a b L fill).1 fill) (s:=(shFar s a b L fill).2) (l:=(shK s a b L fill (lg a.length)).1) (L0:=(shK s a b L fill (lg a.length)).1) (B:=(fun (s4:Int × (List Int) × Int × Bool × (List D.Gate) × (List (D.Gate × Int)))=>
    if (decide (s4.1 < (len a))) then
     (get? s4.2.1 s4.1).bind fun x27=>
     (Zb (D.builder.mk (D.Circuit.mk s4.2.2.1 s4.2.2.2.2.1) s4.2.2.2.2.2 s4.2.2.2.1) (shFar s a b L fill).1 fill x27).bind fun x28=>
     (set? s4.2.1 s4.1 x28.1).bind fun x29=>
     some (.inl ((w64 (s4.1 + 1)),x29,x28.2.c.Inputs,x28.2.full,x28.2.c.Gates,x28.2.line))
    else
     some (.inr (s4.2.1,s4.2.2.1,s4.2.2.2.1,s4.2.2.2.2.1,s4.2.2.2.2.2)))) (fun j L m=>((j:Int),L,m.c.Inputs,m.full,m.c.Gates,m.line)) (fun L m=>(L,m.c.Inputs,m.full,m.c.Gates,m.line)) gf.circ (by rw [gl.len]; omega) (fin_ok hab hl ha hb hf hs hw) rfl (fun j Lj mm s' x hx hc hgr hrr hLl hpre=>by
    have hj:j < a.length:=by
     have:=(Zn9.1 hx).1
     rw [gl.len] at this; exact this
    rw [gl.len] at hLl
    obtain ⟨m4,e4,r4⟩:=impl_if hc (c:=(shFar s a b L fill).1) (a:=fill) (b:=x) (litN_mono gf.lit hgr.lines) (litN_mono hf ((gl.grow.trans gf.grow).trans hgr).lines) (litN_mono (gl.lits _ (ZnN hx)) (gf.grow.trans hgr).lines) mm hrr
    have e4':Zb (D.builder.mk (D.Circuit.mk mm.c.Inputs mm.c.Gates) mm.line mm.full) (shFar s a b L fill).1 fill x = _:=e4
    refine ⟨m4,?_,r4⟩
    simp only
    rw [ZnC (by rw [Za]; simp; omega),get?_nat,hpre j (ZnK _),hx]
    simp only [Zn4]
    rw [e4']
    simp only [Zn4]
    rw [set?_nat (by omega)]
    simp only [Zn4]
    rw [Ze (by omega) (by omega)]
    rfl) (fun L mm=>by
    simp only
    rw [ZnA (by rw [Za,gl.len]; simp)]) r2
  simp only [ZpP] at h3
  have hfar:accP orF (shK s a b L fill (lg a.length)).2 (-1) (b.drop (lg a.length)) = shFar s a b L fill:=rfl
  rw [hfar]
  rw [h3]
  exact ⟨_,rfl,m3,rfl,r3⟩
end
end Go.Proofs.YthlolmkdppfioaaGreat.Cc
end
section
namespace Go.Proofs.YthlolmkdppfioaaGreat.Cc
open Go.GL
variable {fuel:Nat} [FU fuel]
def andF2:BS → Int × Int → Int × BS:=fun s p=>andP s p.1 p.2
def orF2:BS → Int × Int → Int × BS:=fun s p=>orP s p.1 p.2
def xorF2:BS → Int × Int → Int × BS:=fun s p=>xorP s p.1 p.2
def eqF:BS → Int → Int × Int → Int × BS:=fun s c p=>andP (xorP s p.1 p.2).2 c (-(xorP s p.1 p.2).1)
def flipP (l:List Int):List Int:=l.set (l.length - 1) (-(l.getD (l.length - 1) 0))
theorem X5 (l:List Int):(flipP l).length = l.length:=by simp [flipP]
theorem Zae {n:Int} {l:List Int} (hl:1 ≤ l.length) (h:∀ x ∈ l,litN n x = true):∀ x ∈ flipP l,litN n x = true:=by
 intro x hx
 rcases ZqB hx with hx | rfl
 ·exact h x hx
 ·rw [ZB]; exact h _ (getD_mem (by omega))
def lessP (s:BS) (a b:List Int):LS:=let r:=addP s a (negs b) 1; ([-r.2.1],r.2.2)
def equalP (s:BS) (a b:List Int):LS:=let r:=accP eqF s 1 (a.zip b); ([r.1],r.2)
def opP (s:BS) (op:Int) (a b:List Int):LS:=
 if op = 3 then ((addP s a b (-1)).1,(addP s a b (-1)).2.2)
 else if op = 4 then ((addP s a (negs b) 1).1,(addP s a (negs b) 1).2.2)
 else if op = 5 then mulK s a b a.length
 else if op = 6 then ((divK s a b a.length).2.1,(divK s a b a.length).2.2)
 else if op = 7 then ((divK s a b a.length).1,(divK s a b a.length).2.2)
 else if op = 8 then seqP andF2 s (a.zip b)
 else if op = 9 then seqP orF2 s (a.zip b)
 else if op = 10 then seqP xorF2 s (a.zip b)
 else if op = 11 then shP s a b true (-1)
 else if op = 12 then shP s a b false (-1)
 else if op = 13 then shP s a b false (a.getD (a.length - 1) 0)
 else if op = 14 then equalP s a b
 else if op = 15 then lessP s a b
 else lessP s (flipP a) (flipP b)
theorem op_cases {op:Int} (h:3 ≤ op ∧ op ≤ 16):op = 3 ∨ op = 4 ∨ op = 5 ∨ op = 6 ∨ op = 7 ∨ op = 8 ∨ op = 9 ∨ op = 10 ∨ op = 11 ∨ op = 12 ∨ op = 13 ∨ op = 14 ∨ op = 15 ∨ op = 16:=by omega
theorem ZeG {l:List Int} (h:1 ≤ l.length) (h2:l.length ≤ 1000):get? l (w64 (len l - 1)) = some (l.getD (l.length - 1) 0):=by
 rw [Za,Ze (by omega) (by omega),show (l.length:Int) - 1 = ((l.length - 1:Nat):Int) by omega,get?_nat,getD_get (by omega)]
theorem Zhz {l:List Int} {x:Int} (h:1 ≤ l.length) (h2:l.length ≤ 1000):set? l (w64 (len l - 1)) x = some (l.set (l.length - 1) x):=by
 rw [Za,Ze (by omega) (by omega),show (l.length:Int) - 1 = ((l.length - 1:Nat):Int) by omega,set?_nat (by omega)]
theorem Zfe {n:Int} {l:List Int} (hn:n ≤ 391) (h:1 ≤ l.length) (h2:l.length ≤ 1000) (hl:∀ x ∈ l,litN n x = true):Yp l = some (flipP l):=by
 unfold Yp Zc
 rw [ZiK h2]
 simp only [Zn4]
 rw [ZeG h h2]
 simp only [Zn4]
 rw [XF (hl _ (getD_mem (by omega))) hn,Zhz h h2]
 rfl
section
variable {s:BS} {a b:List Int} (ha:∀ x ∈ a,litN (lines s.1) x = true) (hb:∀ x ∈ b,litN (lines s.1) x = true)
include ha hb
theorem X9 {s':BS} (hg:Grow s.1 s'.1) {p:Int × Int} (hp:p ∈ a.zip b):litN (lines s'.1) p.1 = true ∧ litN (lines s'.1) p.2 = true:=by
 have:=Zqg hp
 exact ⟨litN_mono (ha _ this.1) hg.lines,litN_mono (hb _ this.2) hg.lines⟩
theorem ZcV:FOk andF2 s (a.zip b):=fun s' p hc hg hp=>have h:=X9 ha hb (s':=s') hg hp; ZV hc h.1 h.2
theorem ZdT:FOk orF2 s (a.zip b):=fun s' p hc hg hp=>have h:=X9 ha hb (s':=s') hg hp; Zbr hc h.1 h.2
theorem ZcC:FOk xorF2 s (a.zip b):=fun s' p hc hg hp=>have h:=X9 ha hb (s':=s') hg hp; XC hc h.1 h.2
theorem ZfR:AOk eqF s (a.zip b):=fun s' c p hc hg hl hp=>by
 have h:=X9 ha hb (s':=s') hg hp
 have g1:=XC hc h.1 h.2
 have g2:=ZV g1.circ (a:=c) (b:=-(xorP s' p.1 p.2).1) (litN_mono hl g1.grow.lines) (by rw [ZB]; exact g1.lit)
 exact ⟨g2.circ,g1.grow.trans g2.grow,g2.lit⟩
end
section
variable {s:BS} (hs:CircP s.1) {a b:List Int} (hab:a.length = b.length) (hl:a.length ≤ 15) (ha:∀ x ∈ a,litN (lines s.1) x = true) (hb:∀ x ∈ b,litN (lines s.1) x = true)
include hs hab hl
theorem Zdt {f:BS → Int × Int → Int × BS} (hf:FOk f s (a.zip b)) {G:D.builder → Int → Int → Option (Int × D.builder)}
  (hG:∀ (s':BS) (p:Int × Int),CircP s'.1 → Grow s.1 s'.1 → p ∈ a.zip b → ∀ m,RelB m s' → ∃ m',G m p.1 p.2 = some ((f s' p).1,m') ∧ RelB m' (f s' p).2) {m:D.builder} (hm:RelB m s) :
  ∃ m',iterN (fun (s1:Int × (List Int) × Int × Bool × (List D.Gate) × (List (D.Gate × Int)))=>
   if (decide (s1.1 < (len a))) then
    (get? a s1.1).bind fun x14=>
    (get? b s1.1).bind fun x15=>
    (G (D.builder.mk (D.Circuit.mk s1.2.2.1 s1.2.2.2.2.1) s1.2.2.2.2.2 s1.2.2.2.1) x14 x15).bind fun x16=>
    (set? s1.2.1 s1.1 x16.1).bind fun x17=>
    some (.inl ((w64 (s1.1 + 1)),x17,x16.2.c.Inputs,x16.2.full,x16.2.c.Gates,x16.2.line))
   else
    some (.inr (s1.2.1,s1.2.2.1,s1.2.2.2.1,s1.2.2.2.2.1,s1.2.2.2.2.2))) fuel (0,List.replicate a.length (0:Int),m.c.Inputs,m.full,m.c.Gates,m.line) = some ((seqP f s (a.zip b)).1,m'.c.Inputs,m'.full,m'.c.Gates,m'.line) ∧ RelB m' (seqP f s (a.zip b)).2:=by
 have hzl:(a.zip b).length = a.length:=by rw [Zo7]; omega
 refine impl_seq hs (by rw [hzl]; omega) hf (by rw [hzl]; simp) (fun j L mm s' x hx hc hgr hrr hLl hpre=>?_) (fun L mm=>?_) hm
 ·have hj:j < a.length:=by
   have:=(Zn9.1 hx).1
   rw [hzl] at this; exact this
  rw [hzl] at hLl
  have hz:=zip_mem hx
  obtain ⟨m4,e4,r4⟩:=hG s' x hc hgr (ZnN hx) mm hrr
  have e4':G (D.builder.mk (D.Circuit.mk mm.c.Inputs mm.c.Gates) mm.line mm.full) x.1 x.2 = _:=e4
  refine ⟨m4,?_,r4⟩
  simp only
  rw [ZnC (by rw [Za]; simp; omega),get?_nat,get?_nat,hz.1,hz.2]
  simp only [Zn4]
  rw [e4']
  simp only [Zn4]
  rw [set?_nat (by omega)]
  simp only [Zn4]
  rw [Ze (by omega) (by omega)]
  rfl
 ·simp only
  rw [ZnA (by rw [Za,hzl]; simp)]
include ha hb
theorem Zl7 {m:D.builder} (hm:RelB m s):∃ m',Yt fuel m a b = some ((accP eqF s 1 (a.zip b)).1,m') ∧ RelB m' (accP eqF s 1 (a.zip b)).2:=by
 have hzl:(a.zip b).length = a.length:=by rw [Zo7]; omega
 unfold Yt
 obtain ⟨m2,h2,r2⟩:=Zfi (fuel:=fuel) (f:=eqF) (l:=a.zip b) (s:=s) (c:=1) (B:=fun (s1:Int × Int × Int × Bool × (List D.Gate) × (List (D.Gate × Int)))=>
  if (decide (s1.2.1 < (len a))) then
   (get? a s1.2.1).bind fun x1=>
   (get? b s1.2.1).bind fun x2=>
   (Zx (D.builder.mk (D.Circuit.mk s1.2.2.1 s1.2.2.2.2.1) s1.2.2.2.2.2 s1.2.2.2.1) x1 x2).bind fun x3=>
   (Zi x3.2 s1.1 (w64 (0 - x3.1))).bind fun x4=>
   some (.inl (x4.1,(w64 (s1.2.1 + 1)),x4.2.c.Inputs,x4.2.full,x4.2.c.Gates,x4.2.line))
  else
   some (.inr (s1.1,s1.2.2.1,s1.2.2.2.1,s1.2.2.2.2.1,s1.2.2.2.2.2))) (fun j c m=>(c,(j:Int),m.c.Inputs,m.full,m.c.Gates,m.line)) (fun c m=>(c,m.c.Inputs,m.full,m.c.Gates,m.line)) hs (XD hs) (by rw [hzl]; omega) (ZfR ha hb) (fun j c mm s' x hx hc hgr hrr hlc=>by
   have hj:j < a.length:=by
    have:=(Zn9.1 hx).1
    rw [hzl] at this; exact this
   have hz:=zip_mem hx
   have hxl:=X9 ha hb (s':=s') hgr (ZnN hx)
   have g1:=XC hc hxl.1 hxl.2
   obtain ⟨m3,e3,r3⟩:=ZcB hc hxl.1 hxl.2 mm hrr
   obtain ⟨m4,e4,r4⟩:=Zan r3 g1.circ (a:=c) (b:=-(xorP s' x.1 x.2).1) (litN_mono hlc g1.grow.lines) (by rw [ZB]; exact g1.lit)
   refine ⟨m4,?_,r4⟩
   simp only
   rw [ZnC (by rw [Za]; simp; omega),get?_nat,get?_nat,hz.1,hz.2]
   simp only [Zn4]
   have e3':Zx (D.builder.mk (D.Circuit.mk mm.c.Inputs mm.c.Gates) mm.line mm.full) x.1 x.2 = _:=e3
   rw [e3']
   simp only [Zn4]
   rw [XF g1.lit g1.circ.lines1,e4]
   simp only [Zn4]
   rw [Ze (by omega) (by omega)]
   rfl) (fun c mm=>by
   simp only
   rw [ZnA (by rw [Za,hzl]; simp)]) hm
 simp only [ZpP] at h2
 rw [h2]
 exact ⟨m2,rfl,r2⟩
theorem Zfr {m:D.builder} (hm:RelB m s):∃ m',ZT fuel m a b = some (-(addP s a (negs b) 1).2.1,m') ∧ RelB m' (addP s a (negs b) 1).2.2:=by
 have hnl:=negs_lits hb
 have ga:=YD hs (by rw [negs_len]; exact hab) ha hnl (XD hs)
 obtain ⟨m2,h2,r2⟩:=ZbX (fuel:=fuel) hs hm (by omega) (by rw [negs_len]; exact hab) ha hnl (XD hs)
 unfold ZT
 rw [impl_opp hs.lines1 (by omega) hb]
 simp only [Zn4]
 rw [h2]
 simp only [Zn4]
 rw [XF ga.lit ga.circ.lines1]
 exact ⟨m2,rfl,r2⟩
end
end Go.Proofs.YthlolmkdppfioaaGreat.Cc
end
section
namespace Go.Proofs.YthlolmkdppfioaaGreat.Cc
open Go.GL
variable {fuel:Nat} [FU fuel]
section
variable {s:BS} (hs:CircP s.1) {op:Int} {a b:List Int} (ho:3 ≤ op ∧ op ≤ 16) (hab:a.length = b.length) (hl:a.length ≤ 15) (hw:1 ≤ a.length) (ha:∀ x ∈ a,litN (lines s.1) x = true) (hb:∀ x ∈ b,litN (lines s.1) x = true)
include hs ho hab hl hw ha hb
def opW (op:Int) (n:Nat):Nat:=if 14 ≤ op then 1 else n
theorem op_good:GoodL s (opW op a.length) (opP s op a b):=by
 have hnl:=negs_lits hb
 have hzl:(a.zip b).length = a.length:=by rw [Zo7]; omega
 have hla:litN (lines s.1) (a.getD (a.length - 1) 0) = true:=ha _ (getD_mem (by omega))
 have one:∀ {x:Int} {t:BS},litN (lines t.1) x = true → ∀ y ∈ [x],litN (lines t.1) y = true:=fun h y hy=>by simp only [ZnX] at hy; subst hy; exact h
 have less:∀ {u v:List Int},u.length = v.length → (∀ x ∈ u,litN (lines s.1) x = true) → (∀ x ∈ v,litN (lines s.1) x = true) → GoodL s 1 (lessP s u v):=fun huv hu hv=>by
  have g:=YD hs (by rw [negs_len]; exact huv) hu (negs_lits hv) (XD hs)
  exact ⟨g.circ,g.grow,rfl,one (by rw [ZB]; exact g.lit)⟩
 rcases op_cases ho with rfl | rfl | rfl | rfl | rfl | rfl | rfl | rfl | rfl | rfl | rfl | rfl | rfl | rfl
 ·have g := YD hs hab ha hb (Yr hs)
  exact ⟨g.circ,g.grow,g.len,g.lits⟩
 ·have g := YD hs (by rw [negs_len]; exact hab) ha hnl (XD hs)
  exact ⟨g.circ,g.grow,g.len,g.lits⟩
 ·exact Zcg hs hab ha hb a.length (ZnK _)
 ·have g := Za6 hab ha hb hs a.length (ZnK _)
  exact ⟨g.circ,g.grow,g.clen,g.clits⟩
 ·have g := Za6 hab ha hb hs a.length (ZnK _)
  exact ⟨g.circ,g.grow,g.len,g.lits⟩
 ·have g := seq_good hs (ZcV ha hb)
  exact ⟨g.circ,g.grow,g.len.trans hzl,g.lits⟩
 ·have g := seq_good hs (ZdT ha hb)
  exact ⟨g.circ,g.grow,g.len.trans hzl,g.lits⟩
 ·have g := seq_good hs (ZcC ha hb)
  exact ⟨g.circ,g.grow,g.len.trans hzl,g.lits⟩
 ·exact Zbj hab hl ha hb (Yr hs) hs hw (L:=true)
 ·exact Zbj hab hl ha hb (Yr hs) hs hw (L:=false)
 ·exact Zbj hab hl ha hb hla hs hw (L:=false)
 ·have g := ZeE hs (XD hs) (ZfR ha hb)
  exact ⟨g.circ,g.grow,rfl,one g.lit⟩
 ·exact less hab ha hb
 ·exact less (by rw [X5,X5]; exact hab) (Zae (by omega) ha) (Zae (by omega) hb)
theorem impl_op {m:D.builder} (hm:RelB m s):∃ m',Z7 fuel m op a b = some ((opP s op a b).1,m') ∧ RelB m' (opP s op a b).2:=by
 have hnl:=negs_lits hb
 have hla:litN (lines s.1) (a.getD (a.length - 1) 0) = true:=ha _ (getD_mem (by omega))
 rcases op_cases ho with rfl | rfl | rfl | rfl | rfl | rfl | rfl | rfl | rfl | rfl | rfl | rfl | rfl | rfl
 all_goals unfold Z7 opP
 all_goals simp only [Int.reduceBEq,Int.reduceEq,ZpB,Bool.or_true,Zq9,Zn6,ZnV,ZnI]
 ·obtain ⟨m1, h1, r1⟩ := ZbX (fuel := fuel) hs hm (by omega) hab ha hb (Yr hs)
  rw [h1]; exact ⟨m1,rfl,r1⟩
 ·rw [impl_opp hs.lines1 (by omega) hb]
  simp only [Zn4]
  obtain ⟨m1,h1,r1⟩:=ZbX (fuel:=fuel) hs hm (by omega) (by rw [negs_len]; exact hab) ha hnl (XD hs)
  rw [h1]; exact ⟨m1,rfl,r1⟩
 ·obtain ⟨m1, h1, r1⟩ := Zll (fuel := fuel) hs hab (by omega) ha hb hm
  rw [h1]; exact ⟨m1,rfl,r1⟩
 ·obtain ⟨m1, h1, r1⟩ := ZgR (fuel := fuel) hs hab (by omega) ha hb hm
  rw [h1]; exact ⟨m1,rfl,r1⟩
 ·obtain ⟨m1, h1, r1⟩ := ZgR (fuel := fuel) hs hab (by omega) ha hb hm
  rw [h1]; exact ⟨m1,rfl,r1⟩
 ·obtain ⟨m1, h1, r1⟩ := Zdt (fuel := fuel) hs hab hl (ZcV ha hb) (G := Zi) (fun s' p hc hg hp m hm => have h := X9 ha hb (s' := s') hg hp; Zan hm hc h.1 h.2) hm
  rw [mk?_len (by unfold room; omega)]
  simp only [Zn4]
  rw [h1]; exact ⟨m1,rfl,r1⟩
 ·obtain ⟨m1, h1, r1⟩ := Zdt (fuel := fuel) hs hab hl (ZdT ha hb) (G := Zu) (fun s' p hc hg hp m hm => have h := X9 ha hb (s' := s') hg hp; ZdZ hc h.1 h.2 m hm) hm
  rw [mk?_len (by unfold room; omega)]
  simp only [Zn4]
  rw [h1]; exact ⟨m1,rfl,r1⟩
 ·obtain ⟨m1, h1, r1⟩ := Zdt (fuel := fuel) hs hab hl (ZcC ha hb) (G := Zx) (fun s' p hc hg hp m hm => have h := X9 ha hb (s' := s') hg hp; ZcB hc h.1 h.2 m hm) hm
  rw [mk?_len (by unfold room; omega)]
  simp only [Zn4]
  rw [h1]; exact ⟨m1,rfl,r1⟩
 ·obtain ⟨m1, h1, r1⟩ := ZbW (fuel := fuel) hs hab hl hw ha hb (Yr hs) (op := 11) hm
  unfold Yc
  rw [ZnA (by decide),h1]; exact ⟨m1,rfl,r1⟩
 ·obtain ⟨m1, h1, r1⟩ := ZbW (fuel := fuel) hs hab hl hw ha hb (Yr hs) (op := 12) hm
  unfold Yc
  rw [ZnA (by decide),h1]; exact ⟨m1,rfl,r1⟩
 ·obtain ⟨m1, h1, r1⟩ := ZbW (fuel := fuel) hs hab hl hw ha hb hla (op := 13) hm
  unfold Yc
  rw [ZnC (by decide),ZeG hw (by omega)]
  simp only [Zn4]
  rw [h1]; exact ⟨m1,rfl,r1⟩
 ·obtain ⟨m1, h1, r1⟩ := Zl7 (fuel := fuel) hs hab hl ha hb hm
  rw [h1]; exact ⟨m1,rfl,r1⟩
 ·obtain ⟨m1, h1, r1⟩ := Zfr (fuel := fuel) hs hab hl ha hb hm
  rw [h1]; exact ⟨m1,rfl,r1⟩
 ·rw [Zfe hs.lines1 hw (by omega) ha, Zfe hs.lines1 (by omega) (by omega) hb]
  simp only [Zn4]
  obtain ⟨m1,h1,r1⟩:=Zfr (fuel:=fuel) hs (by rw [X5,X5]; exact hab) (by rw [X5]; exact hl) (Zae (by omega) ha) (Zae (by omega) hb) hm
  rw [h1]; exact ⟨m1,rfl,r1⟩
end
end Go.Proofs.YthlolmkdppfioaaGreat.Cc
end
section
namespace Go.Proofs.YthlolmkdppfioaaGreat.Cc
open Go.GL
variable {fuel:Nat} [FU fuel]
def litV (l:List Bool) (a:Int):Bool:=if a < 0 then !((l[(iab a - 1).toNat]?).getD false) else (l[(iab a - 1).toNat]?).getD false
def stepV (l:List Bool) (g:D.Gate):List Bool:=l ++ [litV l g.A && litV l g.B]
def outV' (x:D.Circuit) (l:List Bool) (k:Nat):List Bool:=(x.Gates.take k).foldl stepV ([true] ++ l)
theorem Zld (gs:List D.Gate) (l:List Bool):(gs.foldl stepV l).length = l.length + gs.length:=by
 induction gs generalizing l with
 | nil=>simp
 | cons g gs ih=>rw [Zo5,ih]; simp [stepV]; omega
theorem Zec {x:D.Circuit} {l:List Bool} {k:Nat} (h:k ≤ x.Gates.length):(outV' x l k).length = 1 + l.length + k:=by
 unfold outV'; rw [Zld]; simp; omega
theorem Zjd {x:D.Circuit} {l:List Bool} {k:Nat} (h:k < x.Gates.length):outV' x l (k + 1) = stepV (outV' x l k) x.Gates[k]:=by
 unfold outV'; rw [ZnG h,Zor]; rfl
theorem ZlQ {x:D.Circuit} (h:circB2 x = true) {k:Nat} (hk:k < x.Gates.length):0 ≤ x.Inputs ∧ x.Inputs ≤ 30 ∧ x.Gates.length ≤ 360 ∧ 1 ≤ iab x.Gates[k].A ∧ iab x.Gates[k].A ≤ x.Inputs + 1 + k ∧ 1 ≤ iab x.Gates[k].B ∧ iab x.Gates[k].B ≤ x.Inputs + 1 + k:=by
 unfold circB2 at h
 simp only [ZnB,ZnO,ZnP] at h
 obtain ⟨⟨h1,h2⟩,h3⟩:=h
 have hg:=h3 k (by simp [ZpK]; omega)
 unfold gateAt at hg
 rw [Zn5 hk] at hg
 simp only at hg
 unfold gateB at hg
 have hlt:(x.Gates.take k).length = k:=by simp; omega
 rw [hlt] at hg
 simp only [ZnB,ZnO] at hg
 obtain ⟨⟨⟨⟨a1,a2⟩,a3⟩,a4⟩,-⟩:=hg
 refine ⟨h1.1,h1.2,by omega,by omega,?_,by omega,?_⟩
 ·unfold iab; split <;> omega
 ·unfold iab; split <;> omega
end Go.Proofs.YthlolmkdppfioaaGreat.Cc
end
section
namespace Go.Proofs.YthlolmkdppfioaaGreat.Cc
open Go.GL
def ev (c:D.Circuit) (v:List Bool):List Bool:=outV' c v c.Gates.length
theorem Zkl (gs:List D.Gate) (l:List Bool):l <+: gs.foldl stepV l:=by
 induction gs generalizing l with
 | nil=>exact List.prefix_rfl
 | cons g gs ih=>rw [Zo5]; exact (List.prefix_append _ _).trans (ih _)
theorem outV_pre {c:D.Circuit} {v:List Bool} {k:Nat} (hk:k ≤ c.Gates.length):outV' c v k <+: ev c v:=by
 unfold ev outV'
 rw [Zou]
 conv=>rhs; rw [← Zo0 k c.Gates,Zor]
 exact Zkl _ _
theorem ZcT {l m:List Bool} (h:l <+: m) {a:Int} (h1:1 ≤ iab a) (h2:iab a ≤ l.length):litV m a = litV l a:=by
 obtain ⟨t,rfl⟩:=h
 unfold litV
 rw [ZnJ (by omega)]
theorem Xg {l:List Bool} {a:Int} (h:1 ≤ iab a):litV l (-a) = !litV l a:=by
 unfold litV
 rw [iab_neg]
 unfold iab at h
 by_cases c:a < 0
 ·rw [ZnC c,ZnA (by omega),Bool.not_not]
 ·rw [ZnA c] at h
  rw [ZnA c,ZnC (by omega)]
theorem ev_len {c:D.Circuit} {v:List Bool} (hv:(v.length:Int) = c.Inputs):((ev c v).length:Int) = lines c:=by
 unfold ev lines
 rw [Zec (ZnK _)]; omega
theorem ev_one {c:D.Circuit} {v:List Bool}:litV (ev c v) 1 = true:=by
 have h:=outV_pre (c:=c) (v:=v) (k:=0) (by omega)
 rw [ZcT h (a:=1) (by decide) (by simp [outV',iab]; omega)]
 simp [outV',litV,iab]
theorem ev_m1 {c:D.Circuit} {v:List Bool}:litV (ev c v) (-1) = false:=by
 rw [Xg (by decide),ev_one]; rfl
theorem Ziq {c:D.Circuit} (hc:CircP c) {v:List Bool} (hv:(v.length:Int) = c.Inputs) {k:Nat} {g:D.Gate} (hg:c.Gates[k]? = some g):litV (ev c v) (c.Inputs + 2 + k) = (litV (ev c v) g.A && litV (ev c v) g.B):=by
 obtain ⟨hk,rfl⟩:=Zn9.1 hg
 obtain ⟨b1,b2,b3,b4,b5,b6,b7⟩:=ZlQ (circP_iff.2 hc) hk
 have hlen:=Zec (x:=c) (l:=v) (k:=k) (by omega)
 have hlen1:=Zec (x:=c) (l:=v) (k:=k + 1) (by omega)
 have hp:=outV_pre (c:=c) (v:=v) (k:=k) (by omega)
 have hp1:=outV_pre (c:=c) (v:=v) (k:=k + 1) (by omega)
 rw [ZcT hp b4 (by omega),ZcT hp b6 (by omega)]
 have hi:iab (c.Inputs + 2 + k) = c.Inputs + 2 + k:=by unfold iab; rw [ZnA (by omega)]
 rw [ZcT hp1 (by omega) (by omega),Zjd hk]
 unfold litV
 rw [hi,ZnA (by omega)]
 unfold stepV
 rw [ZnH (by omega),show (c.Inputs + 2 + (k:Int) - 1).toNat - (outV' c v k).length = 0 by omega]
 rfl
theorem ZfK {l m:List D.Gate} (h:l <+: m) {k:Nat} {g:D.Gate} (hg:l[k]? = some g):m[k]? = some g:=by
 obtain ⟨t,rfl⟩:=h
 obtain ⟨hk,rfl⟩:=Zn9.1 hg
 rw [ZnJ hk,Zn5 hk]
def Sem (s:D.Circuit) (x:Int) (f:List Bool → Bool):Prop:=∀ c',CircP c' → Grow s c' → ∀ v:List Bool,(v.length:Int) = c'.Inputs → litV (ev c' v) x = f (ev c' v)
theorem Sem.mono {s s':D.Circuit} {x:Int} {f:List Bool → Bool} (h:Sem s x f) (hg:Grow s s'):Sem s' x f:=fun c' hc hg' v hv=>h c' hc (hg.trans hg') v hv
theorem Sem.neg {s:D.Circuit} {x:Int} {f:List Bool → Bool} (h:Sem s x f) (hx:1 ≤ iab x):Sem s (-x) (fun e=>!f e):=fun c' hc hg v hv=>by rw [Xg hx,h c' hc hg v hv]
theorem Zff (e:List Bool) (a b:Int):(litV e (gate2 a b).A && litV e (gate2 a b).B) = (litV e a && litV e b):=by
 unfold gate2; split
 ·exact Bool.and_comm _ _
 ·rfl
theorem Zbh {s:BS} {a b:Int} (ha:litN (lines s.1) a = true) (hb:litN (lines s.1) b = true) (hn:(andP s a b).2.2 = false):Sem (andP s a b).2.1 (andP s a b).1 (fun e=>litV e a && litV e b):=by
 have a1:=(litN_iff.1 ha).1
 have b1:=(litN_iff.1 hb).1
 unfold andP at hn ⊢
 split
 ·rename_i h
  intro c' hc hg v hv
  simp only
  rw [ev_m1]
  rcases h with rfl | rfl | rfl
  ·rw [ev_m1]; rfl
  ·rw [ev_m1,Zqs]
  ·rw [Xg b1]; cases litV (ev c' v) b <;> rfl
 ·rename_i n1
  rw [ZnA n1] at hn
  split
  ·rename_i h
   intro c' hc hg v hv
   simp only
   rw [h,ev_one,ZoK]
  ·rename_i n2
   rw [ZnA n2] at hn
   split
   ·rename_i h
    intro c' hc hg v hv
    simp only
    rcases h with rfl | rfl
    ·rw [ev_one,ZpJ]
    ·rw [ZqK]
   ·rename_i n3
    rw [ZnA n3] at hn
    cases hf:find s.1.Gates (gate2 a b) with
    | some i=>
     intro c' hc hg v hv
     simp only
     have h1:=ZfK hg.2 (ZeT hf).2
     rw [← hg.1,Ziq hc hv h1,Zff]
    | none=>
     rw [hf] at hn
     by_cases hl:360 ≤ s.1.Gates.length
     ·simp only [ZnC hl] at hn; cases hn
     ·simp only [ZnA hl]
      intro c' hc hg v hv
      simp only at hg ⊢
      have h1:c'.Gates[s.1.Gates.length]? = some (gate2 a b):=ZfK hg.2 (by simp)
      have h2:s.1.Inputs = c'.Inputs:=hg.1.symm
      rw [h2,Ziq hc hv h1,Zff]
theorem XL {s:BS} {a b:Int} (hn:(andP s a b).2.2 = false):s.2 = false:=by
 unfold andP at hn
 split at hn
 ·exact hn
 ·split at hn
  ·exact hn
  ·split at hn
   ·exact hn
   ·split at hn
    ·exact hn
    ·split at hn
     ·cases hn
     ·exact hn
structure OneF (s:BS) (r:Int × BS) (F:List Bool → Bool):Prop where
 full:r.2.2 = false → s.2 = false
 sem:r.2.2 = false → Sem r.2.1 r.1 F
section
variable {s:BS} {a b c:Int} (hs:CircP s.1) (ha:litN (lines s.1) a = true) (hb:litN (lines s.1) b = true)
include ha hb
theorem Ze4:OneF s (andP s a b) (fun e=>litV e a && litV e b):=⟨XL,Zbh ha hb⟩
include hs
theorem Zgm:OneF s (orP s a b) (fun e=>litV e a || litV e b):=by
 have na:litN (lines s.1) (-a) = true:=by rw [ZB]; exact ha
 have nb:litN (lines s.1) (-b) = true:=by rw [ZB]; exact hb
 refine ⟨fun h=>XL h,fun h=>?_⟩
 have g:=ZV hs na nb
 have h1:=(Zbh na nb h).neg (litN_iff.1 g.lit).1
 intro c' hc hg v hv
 have:=h1 c' hc hg v hv
 show litV (ev c' v) (-(andP s (-a) (-b)).1) = _
 rw [this]
 dsimp only
 rw [Xg (litN_iff.1 ha).1,Xg (litN_iff.1 hb).1]
 cases litV (ev c' v) a <;> cases litV (ev c' v) b <;> rfl
theorem if_nf (hc:litN (lines s.1) c = true):OneF s (ifP s c a b) (fun e=>cond (litV e c) (litV e a) (litV e b)):=by
 have g1:=ZV hs hc ha
 have nc:litN (lines (andP s c a).2.1) (-c) = true:=by rw [ZB]; exact litN_mono hc g1.grow.lines
 have b1:=litN_mono hb g1.grow.lines
 have g2:=ZV g1.circ nc b1
 have p1:=litN_mono g1.lit g2.grow.lines
 have O:=Zgm (s:=(andP (andP s c a).2 (-c) b).2) g2.circ p1 g2.lit
 refine ⟨fun h=>XL (XL (O.full h)),fun h=>?_⟩
 have f2:=O.full h
 have f1:=XL f2
 have go:=Zbr g2.circ p1 g2.lit
 have m1:=((Zbh hc ha f1).mono g2.grow).mono go.grow
 have m2:=(Zbh nc b1 f2).mono go.grow
 intro c' hcc hg v hv
 have q1:=m1 c' hcc hg v hv
 have q2:=m2 c' hcc hg v hv
 have q3:=O.sem h c' hcc hg v hv
 show litV (ev c' v) (orP (andP (andP s c a).2 (-c) b).2 (andP s c a).1 (andP (andP s c a).2 (-c) b).1).1 = _
 rw [q3]
 dsimp only
 rw [q1,q2]
 dsimp only
 rw [Xg (litN_iff.1 hc).1]
 cases litV (ev c' v) c <;> cases litV (ev c' v) a <;> cases litV (ev c' v) b <;> rfl
theorem ZfU:OneF s (xorP s a b) (fun e=>xor (litV e a) (litV e b)):=by
 have nb:litN (lines s.1) (-b) = true:=by rw [ZB]; exact hb
 have g1:=ZV hs ha nb
 have na:litN (lines (andP s a (-b)).2.1) (-a) = true:=by rw [ZB]; exact litN_mono ha g1.grow.lines
 have b1:=litN_mono hb g1.grow.lines
 have g2:=ZV g1.circ na b1
 have p1:=litN_mono g1.lit g2.grow.lines
 have O:=Zgm (s:=(andP (andP s a (-b)).2 (-a) b).2) g2.circ p1 g2.lit
 refine ⟨fun h=>XL (XL (O.full h)),fun h=>?_⟩
 have f2:=O.full h
 have f1:=XL f2
 have go:=Zbr g2.circ p1 g2.lit
 have m1:=((Zbh ha nb f1).mono g2.grow).mono go.grow
 have m2:=(Zbh na b1 f2).mono go.grow
 intro c' hcc hg v hv
 have q1:=m1 c' hcc hg v hv
 have q2:=m2 c' hcc hg v hv
 have q3:=O.sem h c' hcc hg v hv
 show litV (ev c' v) (orP (andP (andP s a (-b)).2 (-a) b).2 (andP s a (-b)).1 (andP (andP s a (-b)).2 (-a) b).1).1 = _
 rw [q3]
 dsimp only
 rw [q1,q2]
 dsimp only
 rw [Xg (litN_iff.1 ha).1,Xg (litN_iff.1 hb).1]
 cases litV (ev c' v) a <;> cases litV (ev c' v) b <;> rfl
end
set_option linter.unusedSimpArgs false
def SemL (s:D.Circuit) (l:List Int) (F:List Bool → List Bool):Prop:=∀ c',CircP c' → Grow s c' → ∀ v:List Bool,(v.length:Int) = c'.Inputs → l.map (litV (ev c' v)) = F (ev c' v)
theorem SemL.mono {s s':D.Circuit} {l:List Int} {F:List Bool → List Bool} (h:SemL s l F) (hg:Grow s s'):SemL s' l F:=fun c' hc hg' v hv=>h c' hc (hg.trans hg') v hv
structure LstF (s:BS) (t:LS) (F:List Bool → List Bool):Prop where
 full:t.2.2 = false → s.2 = false
 sem:t.2.2 = false → SemL t.2.1 t.1 F
section
variable {α:Type}
theorem seq_nf {f:BS → α → Int × BS} {s:BS} {l:List α} {g:α → List Bool → Bool} (hs:CircP s.1) (hf:FOk f s l)
  (h:∀ s' x,CircP s'.1 → Grow s.1 s'.1 → x ∈ l → OneF s' (f s' x) (g x)):LstF s (seqP f s l) (fun e=>l.map fun x=>g x e):=by
 have key:∀ k,k ≤ l.length → GoodL s k (seqP f s (l.take k)) ∧ LstF s (seqP f s (l.take k)) (fun e=>(l.take k).map fun x=>g x e):=by
  intro k
  induction k with
  | zero=>intro _; exact ⟨Zbo hs hf 0 (by omega),fun h=>h,fun _ c' _ _ v _=>by simp [seqP]⟩
  | succ k ih=>
   intro hk
   obtain ⟨gk,q⟩:=ih (by omega)
   have gk1:=Zbo hs hf (k + 1) hk
   refine ⟨gk1,?_⟩
   have hx:l[k]? = some l[k]:=Zn5 (by omega)
   have o:=h (seqP f s (l.take k)).2 l[k] gk.circ gk.grow (Zoq (by omega))
   have og:=hf (seqP f s (l.take k)).2 l[k] gk.circ gk.grow (Zoq (by omega))
   rw [Zb6 hx]
   refine ⟨fun hn=>q.full (o.full hn),fun hn c' hc hg v hv=>?_⟩
   simp only at hg hn ⊢
   rw [Zo2,q.sem (o.full hn) c' hc (og.grow.trans hg) v hv,ZnG (by omega),Zo2]
   simp only [ZnE,Zoy]
   rw [o.sem hn c' hc hg v hv]
 have:=(key l.length (ZnK _)).2
 rw [Zou] at this
 exact this
theorem Zku {f:BS → Int → α → Int × BS} {s:BS} {c:Int} {l:List α} {g:α → List Bool → Bool → Bool} (hs:CircP s.1) (hc:litN (lines s.1) c = true) (hf:AOk f s l)
  (h:∀ s' c x,CircP s'.1 → Grow s.1 s'.1 → litN (lines s'.1) c = true → x ∈ l → OneF s' (f s' c x) (fun e=>g x e (litV e c))):OneF s (accP f s c l) (fun e=>l.foldl (fun b x=>g x e b) (litV e c)):=by
 have key:∀ k,k ≤ l.length → OneF s (accP f s c (l.take k)) (fun e=>(l.take k).foldl (fun b x=>g x e b) (litV e c)):=by
  intro k
  induction k with
  | zero=>intro _; exact ⟨fun h=>h,fun _ c' _ _ v _=>by simp [accP]⟩
  | succ k ih=>
   intro hk
   have q:=ih (by omega)
   have gk:=Zdq hs hc hf k (by omega)
   have hx:l[k]? = some l[k]:=Zn5 (by omega)
   have o:=h (accP f s c (l.take k)).2 (accP f s c (l.take k)).1 l[k] gk.circ gk.grow gk.lit (Zoq (by omega))
   have og:=hf (accP f s c (l.take k)).2 (accP f s c (l.take k)).1 l[k] gk.circ gk.grow gk.lit (Zoq (by omega))
   rw [Zeg hx]
   refine ⟨fun hn=>q.full (o.full hn),fun hn c' hc hg v hv=>?_⟩
   rw [o.sem hn c' hc hg v hv]
   simp only
   rw [q.sem (o.full hn) c' hc (og.grow.trans hg) v hv,ZnG (by omega),Zor]
   rfl
 have:=key l.length (ZnK _)
 rw [Zou] at this
 exact this
end
theorem Zl3 {s:BS} {k:Nat} {t:AS} (h:GoodA s k t) {p:Int × Int} (h1:litN (lines s.1) p.1 = true) (h2:litN (lines s.1) p.2 = true) :
  ((addStep t p).2.2.2 = false → t.2.2.2 = false) ∧ ∃ o, (addStep t p).1 = t.1 ++ [o] ∧ Grow t.2.2.1 (addStep t p).2.2.1 ∧ ((addStep t p).2.2.2 = false →
   Sem (addStep t p).2.2.1 o (fun E=>xor (xor (litV E p.1) (litV E p.2)) (litV E t.2.1)) ∧ Sem (addStep t p).2.2.1 (addStep t p).2.1 (fun E=>(litV E p.1 && litV E p.2) || (xor (litV E p.1) (litV E p.2) && litV E t.2.1))):=by
 have a1:=litN_mono h1 h.grow.lines
 have a2:=litN_mono h2 h.grow.lines
 have gx:=XC h.circ a1 a2
 have go:=XC gx.circ gx.lit (litN_mono h.lit gx.grow.lines)
 have e1:=gx.grow.trans go.grow
 have gy:=ZV go.circ (litN_mono a1 e1.lines) (litN_mono a2 e1.lines)
 have e2:=go.grow.trans gy.grow
 have e3:=gx.grow.trans e2
 have gz:=ZV gy.circ (litN_mono gx.lit e2.lines) (litN_mono h.lit e3.lines)
 have gw:=Zbr gz.circ (litN_mono gy.lit gz.grow.lines) gz.lit
 have fx:=ZfU h.circ a1 a2
 have fo:=ZfU gx.circ gx.lit (litN_mono h.lit gx.grow.lines)
 have fy:=Ze4 (litN_mono a1 e1.lines) (litN_mono a2 e1.lines)
 have fz:=Ze4 (litN_mono gx.lit e2.lines) (litN_mono h.lit e3.lines)
 have fw:=Zgm gz.circ (litN_mono gy.lit gz.grow.lines) gz.lit
 refine ⟨fun hn=>fx.full (fo.full (fy.full (fz.full (fw.full hn)))),(xorP (xorP t.2.2 p.1 p.2).2 (xorP t.2.2 p.1 p.2).1 t.2.1).1,rfl,e3.trans (gz.grow.trans gw.grow),fun hn=>?_⟩
 have nz:=fw.full hn
 have ny:=fz.full nz
 have no:=fy.full ny
 have nx:=fo.full no
 have m1:=(fx.sem nx).mono (e2.trans (gz.grow.trans gw.grow))
 have m2:=(fo.sem no).mono (gy.grow.trans (gz.grow.trans gw.grow))
 have m3:=(fy.sem ny).mono (gz.grow.trans gw.grow)
 have m4:=(fz.sem nz).mono gw.grow
 have m5:=fw.sem hn
 constructor
 ·intro c' hc hg v hv
  have q1:=m1 c' hc hg v hv
  have q2:=m2 c' hc hg v hv
  rw [q2]
  dsimp only
  rw [q1]
 ·intro c' hc hg v hv
  have q1:=m1 c' hc hg v hv
  have q3:=m3 c' hc hg v hv
  have q4:=m4 c' hc hg v hv
  have q5:=m5 c' hc hg v hv
  refine q5.trans ?_
  dsimp only
  rw [q3,q4]
  dsimp only
  rw [q1]
def addB1 (t:List Bool × Bool) (p:Bool × Bool):List Bool × Bool:=(t.1 ++ [xor (xor p.1 p.2) t.2],(p.1 && p.2) || ((xor p.1 p.2) && t.2))
def addB (a b:List Bool) (c:Bool):List Bool × Bool:=(a.zip b).foldl addB1 ([],c)
def SemA (s:D.Circuit) (l:List Int) (x:Int) (F:List Bool → List Bool × Bool):Prop:=∀ c',CircP c' → Grow s c' → ∀ v:List Bool,(v.length:Int) = c'.Inputs → (l.map (litV (ev c' v)),litV (ev c' v) x) = F (ev c' v)
structure AddF (s:BS) (t:AS) (F:List Bool → List Bool × Bool):Prop where
 full:t.2.2.2 = false → s.2 = false
 sem:t.2.2.2 = false → SemA t.2.2.1 t.1 t.2.1 F
theorem ZfE {s:BS} (hs:CircP s.1) {a b:List Int} {c:Int} (hab:a.length = b.length) (ha:∀ x ∈ a,litN (lines s.1) x = true) (hb:∀ x ∈ b,litN (lines s.1) x = true) (hc:litN (lines s.1) c = true) :
  AddF s (addP s a b c) (fun E=>addB (a.map (litV E)) (b.map (litV E)) (litV E c)):=by
 have hz:(a.zip b).length = a.length:=by rw [Zo7,← hab,ZpH]
 have key:∀ k,k ≤ (a.zip b).length → GoodA s k (((a.zip b).take k).foldl addStep ([],c,s)) ∧ AddF s (((a.zip b).take k).foldl addStep ([],c,s)) (fun E=>((a.zip b).take k).foldl (fun t p=>addB1 t (litV E p.1,litV E p.2)) ([],litV E c)):=by
  intro k
  induction k with
  | zero=>intro _; exact ⟨Zcm hs ha hb hc 0 (by omega),fun h=>h,fun _ c' _ _ v _=>rfl⟩
  | succ k ih=>
   intro hk
   obtain ⟨g,q⟩:=ih (by omega)
   refine ⟨Zcm hs ha hb hc (k + 1) hk,?_⟩
   have hp:(a.zip b)[k]? = some (a.zip b)[k]:=Zn5 (by omega)
   obtain ⟨hpa,hpb⟩:=zip_mem hp
   have h1:=ha _ (ZnN hpa)
   have h2:=hb _ (ZnN hpb)
   obtain ⟨f2,o,ho,hgr,hm⟩:=Zl3 g h1 h2
   rw [ZnG (by omega),Zor]
   simp only [Zo5,ZoY]
   refine ⟨fun hn=>q.full (f2 hn),fun hn c' hc' hg' v hv=>?_⟩
   have q2:=q.sem (f2 hn) c' hc' (hgr.trans hg') v hv
   obtain ⟨m1,m2⟩:=hm hn
   have e1:=m1 c' hc' hg' v hv
   have e2:=m2 c' hc' hg' v hv
   simp only at q2 e1 e2 ⊢
   rw [ho,Zo2,e2]
   simp only [ZnE,Zoy]
   rw [e1,Zor]
   simp only [Zo5,ZoY]
   rw [← q2]
   rfl
 have h:=(key (a.zip b).length (ZnK _)).2
 rw [Zou] at h
 refine ⟨h.full,fun hn c' hc' hg' v hv=>?_⟩
 have h2:=h.sem hn c' hc' hg' v hv
 have h3:(List.map (litV (ev c' v)) (addP s a b c).1,litV (ev c' v) (addP s a b c).2.1) = _:=h2
 rw [h3]
 unfold addB
 rw [ZqA,Zrf]
 rfl
theorem ZdR {n x:Int} (h:litN n x = true):1 ≤ iab x:=(litN_iff.1 h).1
theorem negs_bits {E:List Bool} {n:Int} {l:List Int} (h:∀ x ∈ l,litN n x = true):(negs l).map (litV E) = (l.map (litV E)).map (fun b=>!b):=by
 unfold negs
 rw [ZoG,ZoG]
 refine ZoS fun x hx=>?_
 simp only [Function.comp]
 exact Xg (ZdR (h x hx))
theorem getD_bits {E:List Bool} {l:List Int} {k:Nat} (hk:k < l.length):litV E (l.getD k 0) = (l.map (litV E)).getD k false:=by
 rw [Zn8,Zn8,ZnW,Zn5 hk]
 rfl
def mulB1 (a b:List Bool) (t:List Bool) (k:Nat):List Bool:=
 t.take k ++ (addB (t.drop k) ((a.take (a.length - k)).map fun x=>b.getD k false && x) false).1
def mulB (a b:List Bool) (k:Nat):List Bool:=(List.range k).foldl (mulB1 a b) (List.replicate a.length false)
def divB1 (a less:List Bool) (t:List Bool × List Bool) (k:Nat):List Bool × List Bool:=
 let d:=addB (a.getD k false :: t.1) less true
 (((d.1.zip (a.getD k false :: t.1)).take a.length).map fun p=>cond d.2 p.1 p.2,d.2 :: t.2)
def lessB (b:List Bool):List Bool:=b.map (fun x=>!x) ++ [true]
def divB (a b:List Bool) (k:Nat):List Bool × List Bool:=(List.range k).foldl (fun t i=>divB1 a (lessB b) t (a.length - 1 - i)) (List.replicate a.length false,[])
def pickB (L:Bool) (d:Nat) (fill:Bool) (out:List Bool) (j:Nat):Bool:=
 if L then (if d ≤ j then out.getD (j - d) false else fill) else (if j + d < out.length then out.getD (j + d) false else fill)
def shB1 (L:Bool) (fill:Bool) (b:List Bool) (t:List Bool) (k:Nat):List Bool:=(List.range t.length).map fun j=>cond (b.getD k false) (pickB L (2 ^ k) fill t j) (t.getD j false)
def shB (a b:List Bool) (L fill:Bool) (k:Nat):List Bool:=(List.range k).foldl (shB1 L fill b) a
def shPB (a b:List Bool) (L fill:Bool):List Bool:=
 (shB a b L fill (lg a.length)).map fun x=>cond ((b.drop (lg a.length)).foldl (fun c y=>c || y) false) fill x
section
variable {s:BS} {a b:List Int} (hs:CircP s.1) (hab:a.length = b.length) (ha:∀ x ∈ a,litN (lines s.1) x = true) (hb:∀ x ∈ b,litN (lines s.1) x = true)
include hs hab ha hb
theorem ZmS (k:Nat) (hk:k ≤ a.length):LstF s (mulK s a b k) (fun E=>mulB (a.map (litV E)) (b.map (litV E)) k):=by
 induction k with
 | zero=>exact ⟨fun h=>h,fun _ c' _ _ v _=>by simp [mulK,mulB,ev_m1]⟩
 | succ k ih=>
  have g:=Zcg hs hab ha hb k (by omega)
  have q:=ih (by omega)
  have hok:=ZfM ha hb g.grow (k:=k) (by omega)
  rw [mulK_succ]
  generalize mulK s a b k = t at g q hok ⊢
  have gp:=seq_good g.circ hok
  have hbk:b.getD k 0 ∈ b:=getD_mem (by omega)
  have hlt:(a.take (a.length - k)).length = a.length - k:=by rw [ZnF]; omega
  have o:=seq_nf (g:=fun x e=>litV e (b.getD k 0) && litV e x) g.circ hok (fun s' x hc hgr hx=>Ze4 (litN_mono (hb _ hbk) (g.grow.trans hgr).lines) (litN_mono (ha _ (ZoV hx)) (g.grow.trans hgr).lines))
  have gpl:(seqP (partF (b.getD k 0)) t.2 (a.take (a.length - k))).1.length = a.length - k:=by rw [gp.len,hlt]
  have hdl:(t.1.drop k).length = a.length - k:=by rw [Zoe,g.len]
  have la:∀ x ∈ t.1.drop k,litN (lines (seqP (partF (b.getD k 0)) t.2 (a.take (a.length - k))).2.1) x = true:=fun x hx=>litN_mono (g.lits x (ZoH hx)) gp.grow.lines
  have gq:=YD gp.circ (a:=t.1.drop k) (b:=(seqP (partF (b.getD k 0)) t.2 (a.take (a.length - k))).1) (c:=-1) (by rw [gpl,hdl]) la gp.lits (Yr gp.circ)
  have z:=ZfE gp.circ (a:=t.1.drop k) (b:=(seqP (partF (b.getD k 0)) t.2 (a.take (a.length - k))).1) (c:=-1) (by rw [gpl,hdl]) la gp.lits (Yr gp.circ)
  refine ⟨fun hn=>q.full (o.full (z.full hn)),fun hn c' hc hg v hv=>?_⟩
  have hg':Grow (addP (seqP (partF (b.getD k 0)) t.2 (a.take (a.length - k))).2 (t.1.drop k) (seqP (partF (b.getD k 0)) t.2 (a.take (a.length - k))).1 (-1)).2.2.1 c':=hg
  have e3:=z.sem hn c' hc hg' v hv
  have e2:=o.sem (z.full hn) c' hc (gq.grow.trans hg') v hv
  have e1:=q.sem (o.full (z.full hn)) c' hc ((gp.grow.trans gq.grow).trans hg') v hv
  try simp only at e1
  try simp only at e2
  try simp only at e3
  simp only [mulStep]
  rw [Zo2]
  have e4:=congrArg Prod.fst e3
  try simp only at e4
  rw [e4,e2,ev_m1,Zp5,ZqI,e1]
  unfold mulB
  rw [Zpg,Zor]
  simp only [Zo5,ZoY]
  unfold mulB1
  rw [Zog,← getD_bits (by omega),← Zp5,ZoG]
  rfl
end
section
variable {s:BS} {a b:List Int} (hab:a.length = b.length) (ha:∀ x ∈ a,litN (lines s.1) x = true) (hb:∀ x ∈ b,litN (lines s.1) x = true)
include hab ha hb
structure LstD (s:BS) (t:DS) (F:List Bool → List Bool × List Bool):Prop where
 full:t.2.2.2 = false → s.2 = false
 sem:t.2.2.2 = false → ∀ c',CircP c' → Grow t.2.2.1 c' → ∀ v:List Bool,(v.length:Int) = c'.Inputs → (t.1.map (litV (ev c' v)),t.2.1.map (litV (ev c' v))) = F (ev c' v)
theorem Zka (hs:CircP s.1) (k:Nat) (hk:k ≤ a.length):LstD s (divK s a b k) (fun E=>divB (a.map (litV E)) (b.map (litV E)) k):=by
 induction k with
 | zero=>exact ⟨fun h=>h,fun _ c' _ _ v _=>by simp [divK,divB,ev_m1]⟩
 | succ k ih=>
  have g:=Za6 hab ha hb hs k (by omega)
  have q:=ih (by omega)
  have o:=Zhe hab ha hb g (k:=a.length - 1 - k) (by omega)
  rw [divK_succ]
  generalize hki:a.length - 1 - k = i at o ⊢
  have hi:i < a.length:=by omega
  generalize divK s a b k = t at g q o ⊢
  have hlen:(a.getD i 0 :: t.1).length = (lessOf b).length:=by simp [lessOf,negs_len,g.len,hab]
  have hw:(a.getD i 0 :: t.1).length = a.length + 1:=by simp [g.len]
  have z:=ZfE g.circ (a:=a.getD i 0 :: t.1) (b:=lessOf b) (c:=1) hlen o.tl o.ll o.l1
  have z2:=z.full
  have z3:=z.sem
  have ga:=o.ga
  have fok:=o.fok
  have zl:=o.zl
  have tl:=o.tl
  generalize hA:addP t.2.2 (a.getD i 0 :: t.1) (lessOf b) 1 = A at z2 z3 ga fok zl
  have gq:=seq_good ga.circ fok
  have y:=seq_nf (g:=fun p e=>cond (litV e A.2.1) (litV e p.1) (litV e p.2)) ga.circ fok (fun s' p hc hgr hp=>by
   have hp':=Zqg (ZoV hp)
   exact if_nf hc (litN_mono (ga.lits _ hp'.1) hgr.lines) (litN_mono (tl _ hp'.2) (ga.grow.trans hgr).lines) (litN_mono ga.lit hgr.lines))
  have hst:divStep a (lessOf b) t i = ((seqP (selF A.2.1) A.2.2 ((A.1.zip (a.getD i 0 :: t.1)).take a.length)).1,A.2.1 :: t.2.1,(seqP (selF A.2.1) A.2.2 ((A.1.zip (a.getD i 0 :: t.1)).take a.length)).2):=by
   unfold divStep
   simp only
   rw [hA]
  rw [hst]
  refine ⟨fun hn=>q.full (z2 (y.full hn)),fun hn c' hc hg v hv=>?_⟩
  simp only at hg hn ⊢
  have e3:=z3 (y.full hn) c' hc (gq.grow.trans hg) v hv
  have e2:=y.sem hn c' hc hg v hv
  have e1:=q.sem (z2 (y.full hn)) c' hc ((ga.grow.trans gq.grow).trans hg) v hv
  try simp only at e1
  try simp only at e2
  try simp only at e3
  rw [e2]
  unfold divB
  rw [Zpg,Zor]
  simp only [Zo5,ZoY,Zog]
  rw [hki]
  unfold divB at e1
  simp only [Zog] at e1
  rw [← e1]
  unfold divB1
  simp only [Zog]
  have e4:lessB (List.map (litV (ev c' v)) b) = List.map (litV (ev c' v)) (lessOf b):=by
   unfold lessB lessOf
   rw [Zo2,negs_bits hb]
   simp only [ZnE,Zoy,ev_one]
  rw [← getD_bits hi,e4]
  have e5:litV (ev c' v) (a.getD i 0) :: List.map (litV (ev c' v)) t.1 = List.map (litV (ev c' v)) (a.getD i 0 :: t.1):=rfl
  rw [e5]
  rw [ev_one] at e3
  rw [← e3]
  simp only [ZnE]
  rw [show (litV (ev c' v) (a.getD i 0) :: List.map (litV (ev c' v)) t.1) = List.map (litV (ev c' v)) (a.getD i 0 :: t.1) from rfl,ZqA,← Zp5,ZoG]
  rfl
end
section
variable {s:BS} {a b:List Int} {L:Bool} {fill:Int} (hab:a.length = b.length) (hl:a.length ≤ 15) (ha:∀ x ∈ a,litN (lines s.1) x = true) (hb:∀ x ∈ b,litN (lines s.1) x = true) (hf:litN (lines s.1) fill = true)
include hab ha hb hf
omit hab ha hb hf in
theorem ZjM {E:List Bool} {d j:Nat} {out:List Int} (hj:j < out.length):litV E (pick L d fill out j) = pickB L d (litV E fill) (out.map (litV E)) j:=by
 unfold pick pickB
 rw [Zog]
 cases L
 ·simp only [Zn6, ZnI]
  split
  ·exact getD_bits (by assumption)
  ·rfl
 ·simp only [ZnV]
  split
  ·exact getD_bits (by omega)
  ·rfl
theorem Znt (hs:CircP s.1) (k:Nat) (hk:k ≤ a.length):LstF s (shK s a b L fill k) (fun E=>shB (a.map (litV E)) (b.map (litV E)) L (litV E fill) k):=by
 induction k with
 | zero=>exact ⟨fun h=>h,fun _ c' _ _ v _=>by simp [shK,shB]⟩
 | succ k ih=>
  have g:=Zbw hab ha hb hf hs (L:=L) k (by omega)
  have q:=ih (by omega)
  have o:=Zkw hab hb hf g (k:=k) (by omega) (L:=L) (2 ^ k)
  rw [shK_succ]
  generalize shK s a b L fill k = t at g q o ⊢
  have hln:=g.len
  have y:=seq_nf (g:=fun p e=>cond (litV e (b.getD k 0)) (litV e p.1) (litV e p.2)) g.circ o (fun s' p hc hgr hp=>by
   obtain ⟨j,hj⟩:=Zpz hp
   obtain ⟨hj',rfl⟩:=Zb7 hj
   have e:=g.grow.trans hgr
   refine if_nf hc ?_ (litN_mono (g.lits _ (getD_mem hj')) hgr.lines) (litN_mono (hb _ (getD_mem (by omega))) e.lines)
   rcases Zgz (L:=L) (d:=2 ^ k) (fill:=fill) hj' with h | h
   ·simp only [h]; exact litN_mono hf e.lines
   ·exact litN_mono (g.lits _ h) hgr.lines)
  have gq:=seq_good g.circ o
  refine ⟨fun hn=>q.full (y.full hn),fun hn c' hc hg v hv=>?_⟩
  unfold shStep at hg hn ⊢
  have e2:=y.sem hn c' hc hg v hv
  have e1:=q.sem (y.full hn) c' hc (gq.grow.trans hg) v hv
  try simp only at e1
  try simp only at e2
  rw [e2]
  unfold shB at e1 ⊢
  rw [Zpg,Zor,← e1]
  simp only [Zo5,ZoY]
  unfold shB1 shPairs
  rw [Zog,ZoG]
  refine ZoS fun j hj=>?_
  have hj':j < t.1.length:=Zoa.1 hj
  simp only [Function.comp]
  rw [getD_bits (by omega),ZjM hj',getD_bits hj']
end
def lessB' (a b:List Bool):List Bool:=[!(addB a (b.map fun x=>!x) true).2]
def flipB (l:List Bool):List Bool:=l.set (l.length - 1) (!(l.getD (l.length - 1) false))
def opB (op:Int) (a b:List Bool):List Bool:=
 if op = 3 then (addB a b false).1
 else if op = 4 then (addB a (b.map fun x=>!x) true).1
 else if op = 5 then mulB a b a.length
 else if op = 6 then (divB a b a.length).2
 else if op = 7 then (divB a b a.length).1
 else if op = 8 then (a.zip b).map fun p=>p.1 && p.2
 else if op = 9 then (a.zip b).map fun p=>p.1 || p.2
 else if op = 10 then (a.zip b).map fun p=>xor p.1 p.2
 else if op = 11 then shPB a b true false
 else if op = 12 then shPB a b false false
 else if op = 13 then shPB a b false (a.getD (a.length - 1) false)
 else if op = 14 then [(a.zip b).foldl (fun c p=>c && !(xor p.1 p.2)) true]
 else if op = 15 then lessB' a b
 else lessB' (flipB a) (flipB b)
theorem Zfn {E:List Bool} {n:Int} {l:List Int} (h1:1 ≤ l.length) (h:∀ x ∈ l,litN n x = true):(flipP l).map (litV E) = flipB (l.map (litV E)):=by
 unfold flipP flipB
 rw [List.map_set,Zog,Xg (ZdR (h _ (getD_mem (by omega)))),getD_bits (by omega)]
structure GoodX (s:BS) (t:LS):Prop where
 circ:CircP t.2.1
 grow:Grow s.1 t.2.1
 lits:∀ x ∈ t.1,litN (lines t.2.1) x = true
theorem LstF.cong {s:BS} {t:LS} {F G:List Bool → List Bool} (h:LstF s t F) (hm:∀ c v,F (ev c v) = G (ev c v)):LstF s t G:=⟨h.full,fun hn c' hc hg v hv=>by rw [h.sem hn c' hc hg v hv,hm]⟩
section
variable {s:BS} {a b:List Int} (hab:a.length = b.length) (hl:a.length ≤ 15) (hw:1 ≤ a.length) (ha:∀ x ∈ a,litN (lines s.1) x = true) (hb:∀ x ∈ b,litN (lines s.1) x = true) (hs:CircP s.1)
include hab hl hw ha hb hs
theorem ZhZ {L:Bool} {fill:Int} (hf:litN (lines s.1) fill = true):LstF s (shP s a b L fill) (fun E=>shPB (a.map (litV E)) (b.map (litV E)) L (litV E fill)):=by
 have hlg:=ZgX a.length (by omega) hw
 have g:=Zbw hab ha hb hf hs (L:=L) (lg a.length) (by omega)
 have q:=Znt hab ha hb hf hs (L:=L) (lg a.length) (by omega)
 have gf:=Zdg hab (by omega) ha hb hf hs hw (L:=L)
 have f:OneF (shK s a b L fill (lg a.length)).2 (shFar s a b L fill) _:=Zku (g:=fun x e c=>c || litV e x) g.circ (Yr g.circ) (Zh0 hb g (lg a.length)) (fun s' c x hc hgr hlc hx=>Zgm hc hlc (litN_mono (hb _ (ZoH hx)) (g.grow.trans hgr).lines))
 have y:=seq_nf (g:=fun x e=>cond (litV e (shFar s a b L fill).1) (litV e fill) (litV e x)) gf.circ (fin_ok hab (by omega) ha hb hf hs hw (L:=L)) (fun s' x hc hgr hx=>if_nf hc (litN_mono hf ((g.grow.trans gf.grow).trans hgr).lines) (litN_mono (g.lits _ hx) (gf.grow.trans hgr).lines) (litN_mono gf.lit hgr.lines))
 have gq:=seq_good gf.circ (fin_ok hab (by omega) ha hb hf hs hw (L:=L))
 refine ⟨fun hn=>q.full (f.full (y.full hn)),fun hn c' hc hg v hv=>?_⟩
 have e3:=y.sem hn c' hc hg v hv
 have e2:=f.sem (y.full hn) c' hc (gq.grow.trans hg) v hv
 have e1:=q.sem (f.full (y.full hn)) c' hc ((gf.grow.trans gq.grow).trans hg) v hv
 try simp only at e1
 try simp only at e2
 try simp only at e3
 unfold shP
 rw [e3]
 unfold shPB
 rw [Zog,← e1,ZoG]
 refine ZoS fun x _=>?_
 simp only [Function.comp]
 rw [e2,ev_m1,← ZqI,Zrf]
omit hl hw in
theorem ZfB {f:BS → Int × Int → Int × BS} {g:Bool → Bool → Bool} (hf:FOk f s (a.zip b))
  (h:∀ s' p,CircP s'.1 → Grow s.1 s'.1 → litN (lines s'.1) p.1 = true → litN (lines s'.1) p.2 = true → OneF s' (f s' p) (fun e=>g (litV e p.1) (litV e p.2))) :
  LstF s (seqP f s (a.zip b)) (fun E=>((a.map (litV E)).zip (b.map (litV E))).map fun p=>g p.1 p.2):=by
 have hz:(a.zip b).length = a.length:=by rw [Zo7]; omega
 have y:=seq_nf (g:=fun p e=>g (litV e p.1) (litV e p.2)) hs hf (fun s' p hc hgr hp=>by
  have hp':=X9 ha hb (s':=s') hgr hp
  exact h s' p hc hgr hp'.1 hp'.2)
 refine ⟨y.full,fun hn c' hc hg v hv=>?_⟩
 rw [y.sem hn c' hc hg v hv,ZqA,ZoG]
 rfl
omit hl hw in
theorem Ziy {c:Int} (hc:litN (lines s.1) c = true):LstF s ((addP s a b c).1,(addP s a b c).2.2) (fun E=>(addB (a.map (litV E)) (b.map (litV E)) (litV E c)).1):=by
 have z:=ZfE hs hab ha hb hc
 exact ⟨z.full,fun hn c' hc' hg v hv=>congrArg Prod.fst (z.sem hn c' hc' hg v hv)⟩
omit hl hw in
theorem ZgH:LstF s (lessP s a b) (fun E=>lessB' (a.map (litV E)) (b.map (litV E))):=by
 have hnl:=negs_lits hb
 have z:=ZfE hs (a:=a) (b:=negs b) (c:=1) (by rw [negs_len]; exact hab) ha hnl (XD hs)
 have ga:=YD hs (a:=a) (b:=negs b) (c:=1) (by rw [negs_len]; exact hab) ha hnl (XD hs)
 refine ⟨z.full,fun hn c' hc' hg v hv=>?_⟩
 have hg':Grow (addP s a (negs b) 1).2.2.1 c':=hg
 have e:=congrArg Prod.snd (z.sem hn c' hc' hg' v hv)
 simp only at e
 unfold lessP lessB'
 simp only [ZnE,Zoy]
 rw [Xg (ZdR ga.lit),e,negs_bits hb,ev_one]
theorem op_nf {op:Int} (ho:3 ≤ op ∧ op ≤ 16):GoodX s (opP s op a b) ∧ LstF s (opP s op a b) (fun E=>opB op (a.map (litV E)) (b.map (litV E))):=by
 have hnl:=negs_lits hb
 have hla:litN (lines s.1) (a.getD (a.length - 1) 0) = true:=ha _ (getD_mem (by omega))
 rcases op_cases ho with rfl | rfl | rfl | rfl | rfl | rfl | rfl | rfl | rfl | rfl | rfl | rfl | rfl | rfl
 all_goals unfold opP opB
 all_goals simp only [Int.reduceEq,ZnV,ZnI,Zog]
 ·have g := YD hs hab ha hb (Yr hs)
  have y:=Ziy hab ha hb hs (Yr hs)
  exact ⟨⟨g.circ,g.grow,g.lits⟩,y.cong fun c' v=>by rw [ev_m1]⟩
 ·have hab' : a.length = (negs b).length := by rw [negs_len]; exact hab
  have g:=YD hs hab' ha hnl (XD hs)
  have y:=Ziy hab' ha hnl hs (XD hs)
  exact ⟨⟨g.circ,g.grow,g.lits⟩,y.cong fun c' v=>by rw [ev_one,negs_bits hb]⟩
 ·have g := Zcg hs hab ha hb a.length (ZnK _)
  have y:=ZmS hs hab ha hb a.length (ZnK _)
  exact ⟨⟨g.circ,g.grow,g.lits⟩,y⟩
 ·have g := Za6 hab ha hb hs a.length (ZnK _)
  have y:=Zka hab ha hb hs a.length (ZnK _)
  exact ⟨⟨g.circ,g.grow,g.clits⟩,⟨y.full,fun hn c' hc hg v hv=>congrArg Prod.snd (y.sem hn c' hc hg v hv)⟩⟩
 ·have g := Za6 hab ha hb hs a.length (ZnK _)
  have y:=Zka hab ha hb hs a.length (ZnK _)
  exact ⟨⟨g.circ,g.grow,g.lits⟩,⟨y.full,fun hn c' hc hg v hv=>congrArg Prod.fst (y.sem hn c' hc hg v hv)⟩⟩
 ·have g := seq_good hs (ZcV ha hb)
  have y:=ZfB hab ha hb hs (g:=fun p q=>p && q) (ZcV ha hb) (fun s' p hc hgr h1 h2=>Ze4 h1 h2)
  exact ⟨⟨g.circ,g.grow,g.lits⟩,y⟩
 ·have g := seq_good hs (ZdT ha hb)
  have y:=ZfB hab ha hb hs (g:=fun p q=>p || q) (ZdT ha hb) (fun s' p hc hgr h1 h2=>Zgm hc h1 h2)
  exact ⟨⟨g.circ,g.grow,g.lits⟩,y⟩
 ·have g := seq_good hs (ZcC ha hb)
  have y:=ZfB hab ha hb hs (g:=fun p q=>xor p q) (ZcC ha hb) (fun s' p hc hgr h1 h2=>ZfU hc h1 h2)
  exact ⟨⟨g.circ,g.grow,g.lits⟩,y⟩
 ·have g := Zbj hab (by omega) ha hb (Yr hs) hs hw (L := true)
  have y:=ZhZ hab hl hw ha hb hs (L:=true) (Yr hs)
  exact ⟨⟨g.circ,g.grow,g.lits⟩,y.cong fun c' v=>by rw [ev_m1]⟩
 ·have g := Zbj hab (by omega) ha hb (Yr hs) hs hw (L := false)
  have y:=ZhZ hab hl hw ha hb hs (L:=false) (Yr hs)
  exact ⟨⟨g.circ,g.grow,g.lits⟩,y.cong fun c' v=>by rw [ev_m1]⟩
 ·have g := Zbj hab (by omega) ha hb hla hs hw (L := false)
  have y:=ZhZ hab hl hw ha hb hs (L:=false) hla
  exact ⟨⟨g.circ,g.grow,g.lits⟩,y.cong fun c' v=>by rw [getD_bits (by omega)]⟩
 ·have hz : (a.zip b).length = a.length := by rw [Zo7]; omega
  have g:=ZeE hs (XD hs) (ZfR ha hb)
  have y:=Zku (g:=fun p e c=>c && !(xor (litV e p.1) (litV e p.2))) hs (XD hs) (ZfR ha hb) (fun s' c p hc hgr hlc hp=>by
   have hp':=X9 ha hb (s':=s') hgr hp
   have x:=ZfU hc hp'.1 hp'.2
   have gx:=XC hc hp'.1 hp'.2
   have gn:litN (lines (xorP s' p.1 p.2).2.1) (-(xorP s' p.1 p.2).1) = true:=by rw [ZB]; exact gx.lit
   have z:=Ze4 (s:=(xorP s' p.1 p.2).2) (a:=c) (b:=-(xorP s' p.1 p.2).1) (litN_mono hlc gx.grow.lines) gn
   have gz:=ZV gx.circ (a:=c) (b:=-(xorP s' p.1 p.2).1) (litN_mono hlc gx.grow.lines) gn
   refine ⟨fun hn=>x.full (z.full hn),fun hn c' hc' hg v hv=>?_⟩
   have e2:=z.sem hn c' hc' hg v hv
   have e1:=x.sem (z.full hn) c' hc' (gz.grow.trans hg) v hv
   try simp only at e1
   try simp only at e2
   unfold eqF
   rw [e2,Xg (ZdR gx.lit),e1])
  refine ⟨⟨g.circ,g.grow,fun x hx=>by rw [ZnX.1 hx]; exact g.lit⟩,⟨y.full,fun hn c' hc hg v hv=>?_⟩⟩
  have e:=y.sem hn c' hc hg v hv
  try simp only at e
  unfold equalP
  simp only [ZnE,Zoy]
  rw [e,ev_one,ZqA,Zrf]
  rfl
 ·have g := YD hs (by rw [negs_len]; exact hab) ha hnl (XD hs)
  have y:=ZgH hab ha hb hs
  exact ⟨⟨g.circ,g.grow,fun x hx=>by rw [ZnX.1 hx,ZB]; exact g.lit⟩,y⟩
 ·have fa := Zae (by omega) ha
  have fb:=Zae (by omega) hb
  have g:=YD hs (by rw [negs_len,X5,X5]; exact hab) fa (negs_lits fb) (XD hs)
  have y:=ZgH (a:=flipP a) (b:=flipP b) (by rw [X5,X5]; exact hab) fa fb hs
  exact ⟨⟨g.circ,g.grow,fun x hx=>by rw [ZnX.1 hx,ZB]; exact g.lit⟩,y.cong fun c' v=>by rw [Zfn (by omega) ha,Zfn (by omega) hb]⟩
end
def bi (b:Bool):Nat:=if b then 1 else 0
def vB:List Bool → Nat
 | []=>0
 | b :: l=>bi b + 2 * vB l
theorem vB_snoc (b:Bool):∀ l:List Bool,vB (l ++ [b]) = vB l + bi b * 2 ^ l.length
 | []=>by simp [vB]
 | x :: l=>by
  rw [Zpx,vB,vB_snoc b l,vB,ZnL,Zpv]
  have e:bi b * (2 ^ l.length * 2) = 2 * (bi b * 2 ^ l.length):=by rw [← ZoF,Zo1]
  rw [e,ZpI]; omega
theorem ZU:∀ l:List Bool,vB l < 2 ^ l.length
 | []=>by decide
 | b :: l=>by
  have:=ZU l
  have hb:bi b ≤ 1:=by cases b <;> decide
  rw [vB,ZnL,Zpv]; omega
theorem vB_inj:∀ {a b:List Bool},a.length = b.length → vB a = vB b → a = b
 | [],[],_,_=>rfl
 | x :: a,y :: b,h,e=>by
  rw [vB,vB] at e
  have hx:bi x ≤ 1:=by cases x <;> decide
  have hy:bi y ≤ 1:=by cases y <;> decide
  have e1:bi x = bi y:=by omega
  have e2:vB a = vB b:=by omega
  have e3:x = y:=by cases x <;> cases y <;> first | rfl | (exact absurd e1 (by decide))
  rw [e3,vB_inj (by simpa using h) e2]
theorem ZlX:∀ x y c:Bool,bi (xor (xor x y) c) + 2 * bi ((x && y) || ((xor x y) && c)) = bi x + bi y + bi c:=by decide
theorem addB_val {a b:List Bool} (h:a.length = b.length) (c:Bool):(addB a b c).1.length = a.length ∧ vB (addB a b c).1 + bi (addB a b c).2 * 2 ^ a.length = vB a + vB b + bi c:=by
 have key:∀ k,k ≤ a.length → (((a.zip b).take k).foldl addB1 ([],c)).1.length = k ∧ vB (((a.zip b).take k).foldl addB1 ([],c)).1 + bi (((a.zip b).take k).foldl addB1 ([],c)).2 * 2 ^ k = vB (a.take k) + vB (b.take k) + bi c:=by
  intro k
  induction k with
  | zero=>intro _; simp [vB]
  | succ k ih=>
   intro hk
   obtain ⟨h1,h2⟩:=ih (by omega)
   have hz:k < (a.zip b).length:=by rw [Zo7]; omega
   rw [ZnG hz,Zor]
   simp only [Zo5,ZoY,List.getElem_zip]
   generalize ((a.zip b).take k).foldl addB1 ([],c) = t at h1 h2 ⊢
   unfold addB1
   simp only
   have hb:=ZlX a[k] (b[k]'(by omega)) t.2
   refine ⟨by rw [ZnD,h1]; rfl,?_⟩
   rw [vB_snoc,h1,ZnG (by omega:k < a.length),ZnG (by omega:k < b.length),vB_snoc,vB_snoc,ZnF,ZnF,Zop (by omega),Zop (by omega),Zpv]
   generalize bi (xor (xor a[k] (b[k]'(by omega))) t.2) = o at *
   generalize bi (a[k] && b[k]'(by omega) || xor a[k] (b[k]'(by omega)) && t.2) = w at *
   generalize bi a[k] = x at *
   generalize bi (b[k]'(by omega)) = y at *
   generalize bi t.2 = z at *
   generalize 2 ^ k = T at *
   have e:(o + 2 * w) * T = (x + y + z) * T:=by rw [hb]
   simp only [Zpn,ZoF] at e
   have e2:w * (T * 2) = 2 * (w * T):=by rw [Zo1 T 2,← ZoF,Zo1 w 2,ZoF]
   rw [e2]
   omega
 have:=key a.length (ZnK _)
 have hz:(a.zip b).take a.length = a.zip b:=Zov (by rw [Zo7]; omega)
 rw [hz,Zou,Zov (by omega:b.length ≤ a.length)] at this
 exact this
theorem bi_le (b:Bool):bi b ≤ 1:=by cases b <;> decide
theorem vB_app (b:List Bool):∀ a:List Bool,vB (a ++ b) = vB a + 2 ^ a.length * vB b
 | []=>by simp [vB]
 | x :: a=>by rw [Zpx,vB,vB_app b a,vB,ZnL,Zpv,ZpI,Zo1 (2 ^ a.length) 2,ZoF]; omega
theorem vB_split (l:List Bool) {k:Nat} (hk:k ≤ l.length):vB l = vB (l.take k) + 2 ^ k * vB (l.drop k):=by
 have:=vB_app (l.drop k) (l.take k)
 rw [Zo0,ZnF,Zop hk] at this
 exact this
theorem Zm9 (b:Bool) (l:List Bool):vB (l.map fun x=>b && x) = bi b * vB l:=by
 induction l with
 | nil=>simp [vB]
 | cons x l ih=>
  rw [ZnE,vB,vB,ih,ZpI]
  have:bi (b && x) = bi b * bi x:=by cases b <;> cases x <;> rfl
  rw [this,← ZoF,Zo1 2,ZoF]
theorem vB_rep (n:Nat):vB (List.replicate n false) = 0:=by
 induction n with
 | zero=>rfl
 | succ n ih=>rw [Zp3,vB,ih]; rfl
theorem vB_ones (n:Nat):vB (List.replicate n true) + 1 = 2 ^ n:=by
 induction n with
 | zero=>rfl
 | succ n ih=>rw [Zp3,vB,Zpv,← ih]; simp only [bi,ZnV]; omega
theorem vB_not (l:List Bool):vB (l.map fun x=>!x) + vB l + 1 = 2 ^ l.length:=by
 induction l with
 | nil=>rfl
 | cons x l ih=>
  rw [ZnE,vB,vB,ZnL,Zpv,← ih]
  have:bi (!x) + bi x = 1:=by cases x <;> rfl
  omega
theorem ZlA {a b:List Bool} (h:a.length = b.length) (k:Nat) (hk:k ≤ a.length):(mulB a b k).length = a.length ∧ ∃ q,vB a * vB (b.take k) = vB (mulB a b k) + 2 ^ a.length * q:=by
 induction k with
 | zero=>exact ⟨by simp [mulB],0,by simp [mulB,vB_rep,vB]⟩
 | succ k ih=>
  obtain ⟨h1,q,h2⟩:=ih (by omega)
  have e:mulB a b (k + 1) = mulB1 a b (mulB a b k) k:=by unfold mulB; rw [Zpg,Zor]; rfl
  rw [e]
  generalize mulB a b k = t at h1 h2 ⊢
  unfold mulB1
  have hP:((a.take (a.length - k)).map fun x=>b.getD k false && x).length = a.length - k:=by rw [Zog,ZnF]; omega
  have hd:(t.drop k).length = a.length - k:=by rw [Zoe,h1]
  obtain ⟨g1,g2⟩:=addB_val (hd.trans hP.symm) false
  have ht:(t.take k).length = k:=by rw [ZnF]; omega
  refine ⟨by rw [ZnD,ht,g1,hd]; omega,?_⟩
  rw [vB_app,ht]
  rw [hd,Zm9] at g2
  generalize addB (t.drop k) ((a.take (a.length - k)).map fun x=>b.getD k false && x) false = S at g1 g2 ⊢
  have hb:vB (b.take (k + 1)) = vB (b.take k) + bi (b.getD k false) * 2 ^ k:=by
   rw [ZnG (by omega:k < b.length),vB_snoc,ZnF,Zop (by omega),Zn8,Zn5 (by omega)]
   rfl
  have ha:=vB_split a (k:=a.length - k) (by omega)
  have htt:=vB_split t (k:=k) (by omega)
  have hp:2 ^ a.length = 2 ^ k * 2 ^ (a.length - k):=by rw [← ZpU]; congr 1; omega
  refine ⟨bi S.2 + bi (b.getD k false) * vB (a.drop (a.length - k)) + q,?_⟩
  rw [hb,ZpI,h2,htt]
  simp only [bi,Zn6,ZnI,ZoQ] at g2 ⊢
  generalize vB (a.take (a.length - k)) = A1 at *
  generalize vB (a.drop (a.length - k)) = A2 at *
  generalize (if b.getD k false = true then 1 else 0) = B at *
  generalize (if S.2 = true then 1 else 0) = C at *
  generalize vB (t.take k) = T1 at *
  generalize vB (t.drop k) = T2 at *
  generalize vB S.1 = V at *
  rw [ha,hp]
  generalize 2 ^ (a.length - k) = X at *
  generalize 2 ^ k = Y at *
  have e1:Y * (V + C * X) = Y * (T2 + B * A1):=by rw [g2]
  simp only [ZpI,Zpn] at e1 ⊢
  have r1:A1 * (B * Y) = Y * (B * A1):=by rw [Zo1 B Y,← ZoF,Zo1 A1 Y,ZoF,Zo1 A1 B]
  have r2:X * A2 * (B * Y) = Y * X * (B * A2):=by
   rw [Zo1 B Y,← ZoF,Zo1 (X * A2) Y,← ZoF,ZoF (Y * X),Zo1 A2 B]
  have r3:Y * (C * X) = Y * X * C:=by rw [Zo1 C X,ZoF]
  rw [r1,r2]; rw [r3] at e1
  omega
theorem mul_num {a b:List Bool} (h:a.length = b.length):(mulB a b a.length).length = a.length ∧ vB (mulB a b a.length) = (vB a * vB b) % 2 ^ a.length:=by
 obtain ⟨h1,q,h2⟩:=ZlA h a.length (ZnK _)
 refine ⟨h1,?_⟩
 rw [Zov (by omega)] at h2
 have:=ZU (mulB a b a.length)
 rw [h1] at this
 rw [h2,Zp9,Zps this]
theorem ZlN {a b:List Bool} (h:a.length = b.length) (k:Nat) (hk:k ≤ a.length):(divB a b k).1.length = a.length ∧ (divB a b k).2.length = k ∧ (vB b ≠ 0 → vB (a.drop (a.length - k)) = vB b * vB (divB a b k).2 + vB (divB a b k).1 ∧ vB (divB a b k).1 < vB b) ∧
  (vB b = 0 → vB (divB a b k).1 = vB (a.drop (a.length - k)) ∧ (divB a b k).2 = List.replicate k true):=by
 induction k with
 | zero=>exact ⟨by simp [divB],rfl,fun hb=>⟨by simp [divB,vB_rep,vB],by simp only [divB,Zq3,ZoY,vB_rep]; omega⟩,fun _=>⟨by simp [divB,vB_rep,vB],rfl⟩⟩
 | succ k ih=>
  obtain ⟨h1,h2,h3,h4⟩:=ih (by omega)
  have e:divB a b (k + 1) = divB1 a (lessB b) (divB a b k) (a.length - 1 - k):=by unfold divB; rw [Zpg,Zor]; rfl
  rw [e]
  generalize divB a b k = t at h1 h2 h3 h4 ⊢
  have hi:a.length - 1 - k < a.length:=by omega
  have hdrop:vB (a.drop (a.length - (k + 1))) = bi (a.getD (a.length - 1 - k) false) + 2 * vB (a.drop (a.length - k)):=by
   rw [show a.length - (k + 1) = a.length - 1 - k by omega,Zoj hi,vB,Zn8,Zn5 hi,show a.length - 1 - k + 1 = a.length - k by omega]
   rfl
  have hlt:=ZU (a.drop (a.length - (k + 1)))
  rw [Zoe] at hlt
  have hbl:=ZU b
  rw [← h] at hbl
  have hll:(lessB b).length = a.length + 1:=by simp [lessB,h]
  have hxl:(a.getD (a.length - 1 - k) false :: t.1).length = a.length + 1:=by simp [h1]
  obtain ⟨g1,g2⟩:=addB_val (a:=a.getD (a.length - 1 - k) false :: t.1) (b:=lessB b) (by rw [hxl,hll]) true
  have hless:vB (lessB b) + vB b + 1 = 2 ^ (a.length + 1):=by
   unfold lessB
   rw [vB_snoc,Zog,Zpv,h]
   have:=vB_not b
   simp only [bi,ZnV,ZpG]
   omega
  have hX:vB (a.getD (a.length - 1 - k) false :: t.1) = bi (a.getD (a.length - 1 - k) false) + 2 * vB t.1:=rfl
  unfold divB1
  rw [hxl] at g1 g2
  generalize addB (a.getD (a.length - 1 - k) false :: t.1) (lessB b) true = d at g1 g2 ⊢
  simp only
  have hres:(((d.1.zip (a.getD (a.length - 1 - k) false :: t.1)).take a.length).map fun p=>cond d.2 p.1 p.2) = if d.2 then d.1.take a.length else (a.getD (a.length - 1 - k) false :: t.1).take a.length:=by
   rw [Zp5]
   cases hd2:d.2
   ·have := List.map_snd_zip (l₁ := d.1) (l₂ := a.getD (a.length - 1 - k) false :: t.1) (by rw [g1, hxl]; exact ZnK _)
    simp only [cond_false,Zn6,ZnI]
    exact congrArg (List.take a.length) this
   ·have := List.map_fst_zip (l₁ := d.1) (l₂ := a.getD (a.length - 1 - k) false :: t.1) (by rw [g1, hxl]; exact ZnK _)
    simp only [cond_true,ZnV]
    exact congrArg (List.take a.length) this
  rw [hres]
  have hlen:(if d.2 then d.1.take a.length else (a.getD (a.length - 1 - k) false :: t.1).take a.length).length = a.length:=by
   split <;> (rw [ZnF]; omega)
  refine ⟨hlen,by simp [h2],?_⟩
  have hs1:=vB_split d.1 (k:=a.length) (by omega)
  have hs2:=vB_split (a.getD (a.length - 1 - k) false :: t.1) (k:=a.length) (by omega)
  have hpw:(2:Nat) ^ (a.length + 1) = 2 * 2 ^ a.length:=by rw [Zpv,Zo1]
  have small:∀ (x y z:Nat),x = y + 2 ^ a.length * z → x < 2 ^ a.length → y = x:=fun x y z e hx=>by
   cases z with
   | zero=>simpa using e.symm
   | succ z=>
    have hpos:2 ^ a.length ≤ 2 ^ a.length * (z + 1):=Zqh _ (by omega)
    omega
  have hdr:(2:Nat) ^ (a.length - (a.length - (k + 1))) ≤ 2 ^ a.length:=Zo3 (by omega) (by omega)
  rw [hdrop]
  rw [hX] at g2 hs2
  rw [hdrop] at hlt
  constructor
  ·intro hb
   obtain ⟨r1,r2⟩:=h3 hb
   rw [r1]
   cases hd2:d.2
   ·simp only [Zn6, ZnI]
    rw [hd2] at g2
    simp only [bi,Zn6,ZnI,ZnV,ZpW,ZoQ] at g2 hs2 ⊢
    have hdl:=ZU d.1
    rw [g1] at hdl
    have hx:=small _ _ _ hs2 (by omega)
    rw [hx,vB]
    simp only [bi,Zn6,ZnI,Zpc]
    rw [show vB b * (2 * vB t.2) = 2 * (vB b * vB t.2) by rw [← ZoF,Zo1 (vB b) 2,ZoF]]
    omega
   ·simp only [ZnV]
    rw [hd2] at g2
    simp only [bi,Zn6,ZnI,ZnV,ZpG] at g2 hs2 ⊢
    have hb1:(if a.getD (a.length - 1 - k) false = true then 1 else 0) ≤ 1:=by split <;> omega
    have hx:=small _ _ _ hs1 (by omega)
    rw [hx,vB]
    simp only [bi,ZnV]
    rw [show vB b * (1 + 2 * vB t.2) = vB b + 2 * (vB b * vB t.2) by rw [ZpI,← ZoF (vB b),Zo1 (vB b) 2,ZoF,Zp8]]
    omega
  ·intro hb
   obtain ⟨r1,r2⟩:=h4 hb
   cases hd2:d.2
   ·rw [hd2] at g2
    have hdl:=ZU d.1
    rw [g1] at hdl
    simp only [bi,Zn6,ZnI,ZnV,ZpW,ZoQ] at g2
    omega
   ·simp only [ZnV]
    rw [hd2] at g2
    simp only [bi,Zn6,ZnI,ZnV,ZpG] at g2 hlt hs1 ⊢
    refine ⟨?_,by rw [r2]; rfl⟩
    have hx:=small _ _ _ hs1 (by rw [r1] at g2; omega)
    rw [hx,← r1]
    omega
theorem div_num {a b:List Bool} (h:a.length = b.length):(divB a b a.length).1.length = a.length ∧ (divB a b a.length).2.length = a.length ∧ vB (divB a b a.length).1 = (if vB b = 0 then vB a else vB a % vB b) ∧ vB (divB a b a.length).2 = (if vB b = 0 then 2 ^ a.length - 1 else vB a / vB b):=by
 obtain ⟨h1,h2,h3,h4⟩:=ZlN h a.length (ZnK _)
 rw [ZoR,Zpu] at h3 h4
 refine ⟨h1,h2,?_⟩
 split
 ·rename_i hb
  obtain ⟨r1,r2⟩:=h4 hb
  have:=vB_ones a.length
  exact ⟨r1,by rw [r2]; omega⟩
 ·rename_i hb
  obtain ⟨r1,r2⟩:=h3 hb
  have hp:0 < vB b:=by omega
  constructor
  ·rw [r1,Nat.mul_add_mod,Zps r2]
  ·rw [r1,ZqW hp,ZoX r2,ZoQ]
theorem ZmZ {a b:List Bool} {L fill:Bool} (k:Nat) (hk:k ≤ b.length):shB a b L fill k = (List.range a.length).map (pickB L (vB (b.take k)) fill a):=by
 induction k with
 | zero=>
  simp only [shB,Zq3,ZoY,Zqt,vB]
  refine ZpQ (by simp) fun i h1 h2=>?_
  simp only [ZpR,Zqi]
  unfold pickB
  cases L
  ·simp only [Zn6, ZnI, ZoQ]
   rw [ZnC h1,Zn8,Zn5 h1]; rfl
  ·simp only [ZnV, ZoW, Nat.sub_zero]
   rw [Zn8,Zn5 h1]; rfl
 | succ k ih=>
  have e:shB a b L fill (k + 1) = shB1 L fill b (shB a b L fill k) k:=by unfold shB; rw [Zpg,Zor]; rfl
  rw [e,ih (by omega)]
  have hb:vB (b.take (k + 1)) = vB (b.take k) + bi (b.getD k false) * 2 ^ k:=by
   rw [ZnG (by omega:k < b.length),vB_snoc,ZnF,Zop (by omega),Zn8,Zn5 (by omega)]
   rfl
  rw [hb]
  unfold shB1
  rw [Zog,Zqp]
  refine ZoS fun j hj=>?_
  have hj:=Zoa.1 hj
  have hget:∀ i,i < a.length → ((List.range a.length).map (pickB L (vB (b.take k)) fill a)).getD i false = pickB L (vB (b.take k)) fill a i:=fun i hi=>by
   rw [Zn8,ZnW,Zp2 hi]; rfl
  rw [hget j hj]
  cases b.getD k false
  ·simp only [cond_false,bi,Zn6,ZnI,ZpW,ZoQ]
  ·simp only [cond_true, bi, ZnV, ZpG]
   generalize vB (b.take k) = s at hget ⊢
   generalize 2 ^ k = d
   unfold pickB at hget ⊢
   rw [Zog,Zqp]
   cases L
   ·simp only [Zn6, ZnI] at hget ⊢
    split
    ·rename_i h1
     rw [hget _ h1,show j + d + s = j + (s + d) by omega]
    ·rw [ZnA (by omega)]
   ·simp only [ZnV] at hget ⊢
    split
    ·rename_i h1
     rw [hget _ (by omega)]
     by_cases h2:s ≤ j - d
     ·rw [ZnC h2,ZnC (by omega),show j - d - s = j - (s + d) by omega]
     ·rw [ZnA h2,ZnA (by omega)]
    ·rw [ZnA (by omega)]
theorem ZiG (l:List Bool) (c:Bool):l.foldl (fun c y=>c || y) c = true ↔ c = true ∨ vB l ≠ 0:=by
 induction l generalizing c with
 | nil=>simp [vB]
 | cons x l ih=>
  rw [Zo5,ih,vB]
  cases c <;> cases x <;> simp [bi] <;> omega
theorem shP_val {a b:List Bool} {L fill:Bool} (h:a.length = b.length) (hlg:lg a.length ≤ a.length) (hp:a.length ≤ 2 ^ lg a.length):shPB a b L fill = (List.range a.length).map (pickB L (vB b) fill a):=by
 unfold shPB
 rw [ZmZ _ (by omega),ZoG]
 refine ZoS fun j hj=>?_
 have hj:=Zoa.1 hj
 simp only [Function.comp]
 have hs:=vB_split b (k:=lg a.length) (by omega)
 cases hc:(b.drop (lg a.length)).foldl (fun c y=>c || y) false
 ·have:¬ (vB (b.drop (lg a.length)) ≠ 0):=fun hne=>by
   rw [(ZiG _ _).2 (.inr hne)] at hc; cases hc
  rw [cond_false,hs,show vB (b.drop (lg a.length)) = 0 by omega]
  rfl
 ·have hne : vB (b.drop (lg a.length)) ≠ 0 := ((ZiG _ _).1 hc).resolve_left (by decide)
  have:2 ^ lg a.length ≤ 2 ^ lg a.length * vB (b.drop (lg a.length)):=Zqh _ (by omega)
  rw [cond_true]
  unfold pickB
  cases L
  ·simp only [Zn6,ZnI]; rw [ZnA (by omega)]
  ·simp only [ZnV]; rw [ZnA (by omega)]
theorem shl_num {a:List Bool} (s:Nat):vB ((List.range a.length).map (pickB true s false a)) = (vB a * 2 ^ s) % 2 ^ a.length:=by
 have e:(List.range a.length).map (pickB true s false a) = List.replicate (min s a.length) false ++ a.take (a.length - s):=by
  refine ZpQ (by simp; omega) fun i h1 h2=>?_
  simp only [ZpR,Zqi]
  have hi:i < a.length:=by simpa using h1
  rw [List.getElem_append]
  unfold pickB
  simp only [ZnV,Zos]
  by_cases c:s ≤ i
  ·rw [ZnC c, dif_neg (by omega), Zn8, Zn5 (by omega), List.getElem_take]
   simp only [Zol,Zos,show i - min s a.length = i - s by omega]
  ·rw [ZnA c,dif_pos (by omega),List.getElem_replicate]
 rw [e,vB_app,vB_rep,Zos]
 by_cases c:s ≤ a.length
 ·have hs := vB_split a (k := a.length - s) (by omega)
  have hl:=ZU (a.take (a.length - s))
  rw [ZnF,Zop (by omega)] at hl
  have hp:2 ^ a.length = 2 ^ s * 2 ^ (a.length - s):=by rw [← ZpU]; congr 1; omega
  rw [Zop c,Zpc,hp,Zo1 (vB a),Nat.mul_mod_mul_left,hs,Zp9,Zps hl]
 ·have hp : 2 ^ s = 2 ^ a.length * 2 ^ (s - a.length) := by rw [← ZpU]; congr 1; omega
  rw [show a.length - s = 0 by omega,Zqt,hp,Zo1 (vB a),ZoF,Nat.mul_mod_right]
  simp [vB]
theorem Zgg {a:List Bool} (s:Nat) (fill:Bool):(List.range a.length).map (pickB false s fill a) = a.drop s ++ List.replicate (min s a.length) fill:=by
 refine ZpQ (by simp; omega) fun i h1 h2=>?_
 simp only [ZpR,Zqi]
 have hi:i < a.length:=by simpa using h1
 rw [List.getElem_append]
 unfold pickB
 simp only [Zn6,ZnI,Zoe]
 by_cases c:i + s < a.length
 ·rw [ZnC c, dif_pos (by omega), Zn8, Zn5 c, ZqG]
  simp only [Zol,Nat.add_comm s i]
 ·rw [ZnA c,dif_neg (by omega),List.getElem_replicate]
theorem vB_drop (a:List Bool) (s:Nat):vB (a.drop s) = vB a / 2 ^ s:=by
 by_cases c:s ≤ a.length
 ·have hs := vB_split a c
  have hl:=ZU (a.take s)
  rw [ZnF,Zop c] at hl
  rw [hs,Nat.add_mul_div_left _ _ (ZoT s),ZoX hl,Zpc]
 ·have hl := ZU a
  have hp:2 ^ a.length ≤ 2 ^ s:=Zo3 (by omega) (by omega)
  rw [List.drop_eq_nil_of_le (by omega),ZoX (by omega)]
  rfl
theorem shr_num {a:List Bool} (s:Nat):vB ((List.range a.length).map (pickB false s false a)) = vB a / 2 ^ s:=by
 rw [Zgg,vB_app,vB_rep,vB_drop]; simp
theorem sar_num {a:List Bool} (s:Nat):vB ((List.range a.length).map (pickB false s true a)) = vB a / 2 ^ s + (2 ^ a.length - 2 ^ (a.length - s)):=by
 rw [Zgg,vB_app,vB_drop,Zoe]
 have h1:=vB_ones (min s a.length)
 have hp:2 ^ a.length = 2 ^ (a.length - s) * 2 ^ min s a.length:=by rw [← ZpU]; congr 1; omega
 rw [hp,← h1,ZpI,Zp8]
 omega
end Go.Proofs.YthlolmkdppfioaaGreat.Cc
end
section
namespace Go.Proofs.YthlolmkdppfioaaGreat
open Go.GL
def fuel:Nat:=4194400
theorem lt_fuel {n:Nat} (h:n ≤ 1048576):n < fuel:=by unfold fuel; omega
theorem Zgy {α:Type} {l:List α} {f:α → Option Bool} {b:α → Bool} (hf:∀ x ∈ l,f x = some (b x)) (hb:l.length ≤ 9223372036854775807):∀ (d i:Nat),i + d = l.length → ∀ n,d < n →
  iterN (fun (s1:Int)=>
   if (decide (s1 < (len l))) then
    (get? l s1).bind fun x1=>
    (f x1).bind fun x2=>
    if (!x2) then
     some (.inr (.inr false))
    else
     some (.inl ((w64 (s1 + 1))))
   else
    some (.inr (.inl ()))) n (i:Int) = some (if (l.drop i).all b then (.inl ():Unit ⊕ Bool) else .inr false)
 | 0,i,hi,n,hn=>by
  obtain ⟨n,rfl⟩ : ∃ j,n = j + 1:=⟨n - 1,by omega⟩
  unfold iterN
  rw [ZnA (by rw [Za]; simp; omega)]
  simp [Zpe (show l.length ≤ i by omega)]
 | d + 1,i,hi,n,hn=>by
  obtain ⟨n,rfl⟩ : ∃ j,n = j + 1:=⟨n - 1,by omega⟩
  have hp:i < l.length:=by omega
  unfold iterN
  rw [ZnC (by rw [Za]; simp; omega),get?_nat,Zn5 hp]
  simp only [Zn4]
  rw [hf _ (Zoq hp),Zoj hp]
  simp only [Zn4,Zqy]
  by_cases h:b l[i] = true
  ·rw [ZnA (by simp [h])]
   simp only
   rw [Ze (by omega) (by omega),show ((i:Int) + 1) = ((i + 1:Nat):Int) by omega,Zgy hf hb d (i + 1) (by omega) n (by omega)]
   simp only [h,ZoK]
  ·rw [ZnC (by simp [h])]
   simp [h]
theorem Zi1 {w:Int} (h1:1 ≤ w) (h2:w ≤ 16):∃ m:Int,shl? 1 w = some m ∧ shl? 1 (IntKind.u64.wrap w) = some m ∧ w64 (m - 1) = m - 1:=by
 have:w = 1 ∨ w = 2 ∨ w = 3 ∨ w = 4 ∨ w = 5 ∨ w = 6 ∨ w = 7 ∨ w = 8 ∨ w = 9 ∨ w = 10 ∨ w = 11 ∨ w = 12 ∨ w = 13 ∨ w = 14 ∨ w = 15 ∨ w = 16:=by omega
 rcases this with rfl | rfl | rfl | rfl | rfl | rfl | rfl | rfl | rfl | rfl | rfl | rfl | rfl | rfl | rfl | rfl <;> exact ⟨_,rfl,by decide,by decide⟩
theorem Zfb (w v:Int):∃ b,Z9 w v = some b ∧ XQ w v = some b:=by
 unfold Z9 XQ Zl Yu
 by_cases h:1 ≤ w ∧ w ≤ 16
 ·obtain ⟨m, h1, h2, h3⟩ := Zi1 h.1 h.2
  refine ⟨decide (0 ≤ v) && decide (v < m),?_,?_⟩
  ·simp only [ge_iff_le, h.1, h.2, decide_true, ZqK, Zn4, ZnV, h1, h3, ZoK, Option.some.injEq]
   rw [Zpr]
   simp only [ZnB,ZnO]
   omega
  ·by_cases hv : 0 ≤ v
   ·simp [h.1,h.2,hv,h2]
   ·simp [h.1,h.2,hv]
 ·refine ⟨false, ?_, ?_⟩
  ·by_cases a : 1 ≤ w
   ·have b : ¬ w ≤ 16 := fun b => h ⟨a, b⟩
    simp [a,b]
   ·simp [a]
  ·by_cases a : 1 ≤ w
   ·have b : ¬ w ≤ 16 := fun b => h ⟨a, b⟩
    simp [a,b]
   ·simp [a]
theorem ZcW {c:Bool} {b:Bool}:(if c = true then some b else some default) = some (if c = true then b else default):=by split <;> rfl
def wordB (w v:Int):Bool:=(Z9 w v).getD false
theorem Zcc (w v:Int):Z9 w v = some (wordB w v):=by
 obtain ⟨b,h,-⟩:=Zfb w v
 simp [wordB,h]
theorem Zj9 (w v:Int):XQ w v = some (wordB w v):=by
 obtain ⟨b,h,h'⟩:=Zfb w v
 simp [wordB,h,h']
theorem Y6 {σt ρt:Type} {B:σt → Option (σt ⊕ ρt)} {s:σt} {r:ρt} {n:Nat} (h:B s = some (.inr r)) (hn:0 < n):iterN B n s = some r:=by
 obtain ⟨m,rfl⟩ : ∃ m,n = m + 1:=⟨n - 1,by omega⟩
 rw [iterN,h]
theorem ZbM (s:Str):Str.eqb s s = true:=by unfold Str.eqb; simp
theorem Zf5 {S ρ α σ:Type} {l:List α} {B:S → Option (S ⊕ ρ)} (enc:Nat → σ → S) (I:List α → σ → Prop) (R:ρ → Prop)
  (hs:∀ k x xs a,k < l.length → l[k]? = some x → l.length = k + (x :: xs).length → I (x :: xs) a → (∃ a',B (enc k a) = some (.inl (enc (k + 1) a')) ∧ I xs a') ∨ ∃ r,B (enc k a) = some (.inr r) ∧ R r)
  (he:∀ a,I [] a → ∃ r,B (enc l.length a) = some (.inr r) ∧ R r) :
  ∀ (ys:List α) (k:Nat) (a:σ) (n:Nat),l.drop k = ys → k ≤ l.length → I ys a → ys.length < n → ∃ r,iterN B n (enc k a) = some r ∧ R r
 | [],k,a,n,hd,hk,hI,hn=>by
  obtain ⟨n,rfl⟩ : ∃ j,n = j + 1:=⟨n - 1,by omega⟩
  have:k = l.length:=by
   have:=congrArg List.length hd
   simp at this; omega
  subst this
  obtain ⟨r,h1,h2⟩:=he a hI
  exact ⟨r,by unfold iterN; rw [h1],h2⟩
 | x :: xs,k,a,n,hd,hk,hI,hn=>by
  obtain ⟨n,rfl⟩ : ∃ j,n = j + 1:=⟨n - 1,by omega⟩
  have hl:l.length = k + (x :: xs).length:=by
   have:=congrArg List.length hd
   simp at this ⊢; omega
  have hk':k < l.length:=by simp at hl; omega
  have hx:l[k]? = some x:=by
   have h0:(l.drop k)[0]? = some x:=by rw [hd]; rfl
   rw [ZoC] at h0; simpa using h0
  rcases hs k x xs a hk' hx hl hI with ⟨a',h1,h2⟩ | ⟨r,h1,h2⟩
  ·obtain ⟨r, g1, g2⟩ := Zf5 enc I R hs he xs (k + 1) a' n (by rw [← ZqD, hd]; rfl) (by omega) h2 (by simp at hn; omega)
   exact ⟨r,by unfold iterN; rw [h1]; exact g1,g2⟩
  ·exact ⟨r,by unfold iterN; rw [h1],h2⟩
theorem Yk {S ρ α σ:Type} {l:List α} {B:S → Option (S ⊕ ρ)} (enc:Nat → σ → S) (I:List α → σ → Prop) (R:ρ → Prop)
  (hs:∀ k x xs a,k < l.length → l[k]? = some x → l.length = k + (x :: xs).length → I (x :: xs) a → (∃ a',B (enc k a) = some (.inl (enc (k + 1) a')) ∧ I xs a') ∨ ∃ r,B (enc k a) = some (.inr r) ∧ R r)
  (he:∀ a,I [] a → ∃ r,B (enc l.length a) = some (.inr r) ∧ R r) {a:σ} {n:Nat} (hI:I l a) (hn:l.length < n):∃ r,iterN B n (enc 0 a) = some r ∧ R r:=
 Zf5 enc I R hs he l 0 a n rfl (ZoW _) hI hn
mutual
def msz:D.Term → Nat
 | ⟨_,_,_,s,k⟩=>s.bytes.length + k.length + mszs k
def mszs:List D.Term → Nat
 | []=>0
 | x :: l=>msz x + mszs l
end
theorem ZbK (t:D.Term):msz t = t.Name.bytes.length + t.Kids.length + mszs t.Kids:=by cases t; rw [msz]
theorem Y1 (x:D.Term) (l:List D.Term):mszs (x :: l) = msz x + mszs l:=by rw [mszs]
theorem YL:mszs [] = 0:=by rw [mszs]
theorem Zbq {x:D.Term}:∀ {l:List D.Term},x ∈ l → msz x ≤ mszs l
 | y :: l,h=>by
  rw [Y1]
  rcases Zof.1 h with rfl | h
  ·omega
  ·have:=Zbq h; omega
set_option maxRecDepth 100000
mutual
def cnt:D.Term → Nat
 | ⟨_,_,_,_,k⟩=>1 + cnts k
def cnts:List D.Term → Nat
 | []=>0
 | x :: l=>cnt x + cnts l
end
theorem Xk (t:D.Term):cnt t = 1 + cnts t.Kids:=by cases t; rw [cnt]
theorem ZaV (x:D.Term) (l:List D.Term):cnts (x :: l) = cnt x + cnts l:=by rw [cnts]
theorem ZaX:cnts [] = 0:=by rw [cnts]
theorem Xn {x:D.Term}:∀ {l:List D.Term},x ∈ l → cnt x ≤ cnts l
 | y :: l,h=>by
  rw [ZaV]
  rcases Zof.1 h with rfl | h
  ·omega
  ·have:=Xn h; omega
def lf (m:Int) (c:Nat):Int:=if m - c < 0 then -1 else m - c
theorem few:∀ (n:Nat) (t:D.Term) (m:Int),msz t ≤ 1048576 → 0 ≤ m → m ≤ 240 → 1048580 + m ≤ n → YW n t m = some (decide (lf m (cnt t) ≥ 0),lf m (cnt t)):=by
 intro n
 induction n with
 | zero=>intro t m _ _ _ _; omega
 | succ n ih=>
  intro t m hs h0 h1 hn
  have hz:=ZbK t
  unfold YW
  rw [Ze (by omega) (by omega)]
  obtain ⟨r,g1,g2⟩:=Yk (l:=t.Kids) (n:=n) (σ:=Int) (ρ:=Int) (B:=fun (s1:Int × Int)=>
    if ((decide (s1.1 < (len t.Kids))) && (decide (s1.2 ≥ 0))) then
     (get? t.Kids s1.1).bind fun x1=>
     (YW n x1 s1.2).bind fun x2=>
     some (.inl ((w64 (s1.1 + 1)),x2.2))
    else
     some (.inr (s1.2))) (fun k a=>((k:Int),a)) (fun ys a=>-1 ≤ a ∧ a ≤ m - 1 ∧ lf a (cnts ys) = lf (m - 1) (cnts t.Kids) ∧ ∀ x ∈ ys,x ∈ t.Kids) (fun r=>r = lf (m - 1) (cnts t.Kids))
    (fun k x xs a hk' hx hlen ⟨i0, i1, i2, i3⟩ => by
     have:=Zbq (i3 x (by simp))
     rw [ZaV] at i2
     simp only
     by_cases ha:0 ≤ a
     ·refine .inl ⟨lf a (cnt x), ?_, ?_, ?_, ?_, fun y hy => i3 y (by simp [hy])⟩
      ·rw [ZnC (by rw [Za]; simp; omega), get?_nat, hx]
       simp only [Zn4]
       rw [ih x a (by omega) ha (by omega) (by omega),Ze (by omega) (by omega)]; rfl
      ·unfold lf; split <;> omega
      ·unfold lf; split <;> omega
      ·rw [← i2]; unfold lf; split <;> split <;> split <;> omega
     ·refine .inr ⟨a, by rw [ZnA (by simp; omega)], ?_⟩
      rw [← i2]; unfold lf; split <;> omega)
    (fun a ⟨i0, i1, i2, _⟩ => by
     rw [ZaX] at i2
     simp only
     rw [ZnA (by rw [Za]; simp)]
     refine ⟨_,rfl,?_⟩
     rw [← i2]; unfold lf; split <;> omega) (a:=m - 1) ⟨by omega,by omega,rfl,fun x hx=>hx⟩ (by omega)
  rw [show ((0:Nat):Int) = 0 from rfl] at g1
  rw [g1,g2]
  have e:lf (m - 1) (cnts t.Kids) = lf m (cnt t):=by rw [Xk]; unfold lf; split <;> split <;> omega
  simp only [Zn4,e]
def okF (k:Nat):List UInt8 → Bool
 | []=>true
 | b :: l=>(decide (97 ≤ b.toNat ∧ b.toNat ≤ 122) || (decide (k ≠ 0) && decide (48 ≤ b.toNat ∧ b.toNat ≤ 57))) && okF (k + 1) l
theorem Zgb (k:Nat) (b:UInt8) (l:List UInt8):okF k (b :: l) = ((decide (97 ≤ b.toNat ∧ b.toNat ≤ 122) || (decide (k ≠ 0) && decide (48 ≤ b.toNat ∧ b.toNat ≤ 57))) && okF (k + 1) l):=rfl
def nameB (s:Str):Bool:=okF 0 s.bytes && decide (1 ≤ s.bytes.length ∧ s.bytes.length ≤ 8)
theorem ZgI {s:Str} {k:Nat} {b:UInt8} (h:s.bytes[k]? = some b):sidx? s (k:Int) = some (b.toNat:Int):=by
 unfold sidx?; rw [ZnC (by omega)]; simp [h]
theorem ZbC (a b c:Int):Zl a b c = some (decide (b ≤ a ∧ a ≤ c)):=by simp [Zl]
theorem Zjs {n:Nat} {s:Str} (hl:s.bytes.length ≤ 1048576) (hn:s.bytes.length < n):XO n s = some (nameB s):=by
 unfold XO
 obtain ⟨r,g1,g2⟩:=Yk (l:=s.bytes) (n:=n) (σ:=Unit) (ρ:=Unit ⊕ Bool) (B:=fun (s1:Int)=>
  if (decide (s1 < (len s.bytes))) then
   (sidx? s s1).bind fun x1=>
   (Zl (w64 x1) 97 122).bind fun x2=>
   (if (s1 == 0) then some default else (if (!x2) then (sidx? s s1) else some default)).bind fun x3=>
   (if (s1 == 0) then some default else (if (!x2) then (Zl (w64 x3) 48 57) else some default)).bind fun x4=>
   if ((!x2) && ((s1 == 0) || (!x4))) then
    some (.inr (.inr false))
   else
    some (.inl ((w64 (s1 + 1))))
  else
   some (.inr (.inl ()))) (fun k _=>(k:Int)) (fun ys _=>okF (s.bytes.length - ys.length) ys = okF 0 s.bytes) (fun r=>r = if okF 0 s.bytes then (.inl ():Unit ⊕ Bool) else .inr false)
  (fun k x xs a hk' hx hlen hi => by
   have e1:s.bytes.length - (x :: xs).length = k:=by omega
   have e2:s.bytes.length - xs.length = k + 1:=by simp at hlen; omega
   rw [e1] at hi
   rw [e2]
   have hb:=x.toNat_lt
   rw [← hi]
   simp only [ZgI hx,Zn4,ZbC]
   rw [ZnC (by rw [Za]; simp; omega),Ze (x:=(x.toNat:Int)) (by omega) (by omega),Ze (x:=(k:Int) + 1) (by omega) (by omega)]
   have wx:w64 (x.toNat:Int) = x.toNat:=Ze (by omega) (by omega)
   rw [Zgb]
   by_cases c1:97 ≤ x.toNat ∧ x.toNat ≤ 122
   ·refine .inl ⟨(), ?_, ?_⟩
    ·have : ((97 : Int) ≤ x.toNat ∧ (x.toNat : Int) ≤ 122) := by omega
     simp [this]
    ·simp [c1]
   ·have c1' : ¬ ((97 : Int) ≤ x.toNat ∧ (x.toNat : Int) ≤ 122) := by omega
    by_cases c2:k = 0
    ·subst c2
     exact .inr ⟨.inr false,by simp [c1',wx],by simp [c1]⟩
    ·by_cases c3 : 48 ≤ x.toNat ∧ x.toNat ≤ 57
     ·have : ((48 : Int) ≤ x.toNat ∧ (x.toNat : Int) ≤ 57) := by omega
      exact .inl ⟨(),by simp [c1',c2,this,wx],by simp [c1,c2,c3]⟩
     ·have : ¬ ((48 : Int) ≤ x.toNat ∧ (x.toNat : Int) ≤ 57) := by omega
      exact .inr ⟨.inr false,by simp [c1',c2,this,wx],by simp [c1,c2,c3]⟩)
  (fun a hi => by
   rw [ZnA (by rw [Za]; simp)]
   refine ⟨_,rfl,?_⟩
   rw [← hi]; simp [okF]) (a:=()) (by simp) hn
 rw [show ((0:Nat):Int) = 0 from rfl] at g1
 rw [g1,g2]
 unfold nameB
 cases okF 0 s.bytes
 ·simp
 ·simp only [ZbC,Za,ZnV,Zn4,ZoK,Option.some.injEq,decide_eq_decide]; omega
def shB (op w m:Int) (name:Str) (ws:List Int):Bool:=
 if op = 0 then ws.isEmpty && wordB w m
 else if op = 22 then ws.isEmpty && nameB name
 else if 1 ≤ op ∧ op ≤ 2 then (match ws with | [a]=>a == w | _=>false)
 else if 3 ≤ op ∧ op ≤ 13 then (match ws with | [a,b]=>a == w && b == w | _=>false)
 else if 14 ≤ op ∧ op ≤ 16 then (match ws with | [a,b]=>a == b && w == 1 | _=>false)
 else if op = 17 then (match ws with | [a,b,c]=>a == 1 && b == w && c == w | _=>false)
 else if op = 18 then (match ws with | [a,b]=>a + b == w | _=>false)
 else if op = 19 then (match ws with | [a]=>decide (0 ≤ m ∧ m ≤ 16) && decide (m + w ≤ a) | _=>false)
 else if 20 ≤ op ∧ op ≤ 21 then (match ws with | [a]=>decide (a ≤ w) | _=>false)
 else false
def locB (t:D.Term):Bool:=
 decide (1 ≤ t.W ∧ t.W ≤ 16) && (Str.eqb t.Name ⟨[]⟩ || t.Op == 22) && (t.N == 0 || t.Op == 0 || t.Op == 19) && shB t.Op t.W t.N t.Name (t.Kids.map (·.W))
mutual
def nodeB:D.Term → Bool
 | ⟨o,w,m,s,k⟩=>locB ⟨o,w,m,s,k⟩ && nodesB k
def nodesB:List D.Term → Bool
 | []=>true
 | x :: l=>nodeB x && nodesB l
end
theorem Zam (t:D.Term):nodeB t = (locB t && nodesB t.Kids):=by cases t; rw [nodeB]
theorem Yl:∀ l:List D.Term,nodesB l = l.all nodeB
 | []=>by rw [nodesB]; rfl
 | x :: l=>by rw [nodesB,Yl l]; rfl
theorem Yf {t:D.Term} (h:nodeB t = true):1 ≤ t.W ∧ t.W ≤ 16:=by
 rw [Zam] at h
 unfold locB at h
 simp only [ZnB,ZnO] at h
 exact h.1.1.1.1
def pad3:List D.Term → List Int
 | []=>[0,0,0]
 | [a]=>[a.W,0,0]
 | [a,b]=>[a.W,b.W,0]
 | a :: b :: c :: _=>[a.W,b.W,c.W]
theorem ZlG {l:List D.Term} {n:Nat} (hn:4 ≤ n):iterN (fun (s2:Int × (List Int))=>
   if ((decide (s2.1 < (len l))) && (decide (s2.1 < 3))) then
    (get? l s2.1).bind fun x4=>
    (set? s2.2 s2.1 x4.W).bind fun x5=>
    some (.inl ((w64 (s2.1 + 1)),x5))
   else
    some (.inr (s2.2))
  ) n (0,([0,0,0]:List Int)) = some (pad3 l):=by
 obtain ⟨n,rfl⟩ : ∃ j,n = j + 4:=⟨n - 4,by omega⟩
 rcases l with _ | ⟨a,_ | ⟨b,_ | ⟨c,l⟩⟩⟩
 ·simp [iterN,len,pad3]
 ·simp [iterN,len,pad3,get?,set?,Ze]
 ·simp [iterN,len,pad3,get?,set?,Ze]
 ·have h1 : (0 : Int) < (l.length : Int) + 1 + 1 + 1 := by omega
  have h2:(1:Int) < (l.length:Int) + 1 + 1 + 1:=by omega
  have h3:(2:Int) < (l.length:Int) + 1 + 1 + 1:=by omega
  simp [iterN,len,pad3,get?,set?,Ze,h1,h2,h3]
theorem Zlj {n:Nat} {p0:D.Term} (ih:∀ x ∈ p0.Kids,Yi n x = some (nodeB x)) (hk:p0.Kids.length ≤ 1048576) (hs:p0.Name.bytes.length ≤ 1048576) (hn:1048580 ≤ n) (hw:1 ≤ p0.W ∧ p0.W ≤ 16) :
   ((iterN (fun (s1 : Int) =>
    if (decide (s1 < (len p0.Kids))) then
     (get? p0.Kids s1).bind fun x2=>
     (Yi n x2).bind fun x3=>
     if (!x3) then
      some (.inr (.inr false))
     else
      some (.inl ((w64 (s1 + 1))))
    else
     some (.inr (.inl ()))
   ) n (0)).bind fun (rl1:(Unit) ⊕ Bool)=>
   match rl1 with
   | .inl s1r =>
    (iterN (fun (s2 : Int × (List Int)) =>
     if ((decide (s2.1 < (len p0.Kids))) && (decide (s2.1 < 3))) then
      (get? p0.Kids s2.1).bind fun x4=>
      (set? s2.2 s2.1 x4.W).bind fun x5=>
      some (.inl ((w64 (s2.1 + 1)),x5))
     else
      some (.inr (s2.2))
    ) n (0,([0,0,0]:List Int))).bind fun (rl2:(List Int))=>
    if (p0.Op == 0) then
     (if ((len p0.Kids) == 0) then (Z9 p0.W p0.N) else some default).bind fun x6=>
     some (((len p0.Kids) == 0) && x6)
    else
     if (p0.Op == 22) then
      (if ((len p0.Kids) == 0) then (XO n p0.Name) else some default).bind fun x7=>
      some (((len p0.Kids) == 0) && x7)
     else
      (Zl p0.Op 1 2).bind fun x8=>
      if x8 then
       (if ((len p0.Kids) == 1) then (get? rl2 0) else some default).bind fun x9=>
       some (((len p0.Kids) == 1) && (x9 == p0.W))
      else
       (Zl p0.Op 3 13).bind fun x10=>
       if x10 then
        (if ((len p0.Kids) == 2) then (get? rl2 0) else some default).bind fun x11=>
        (if (((len p0.Kids) == 2) && (x11 == p0.W)) then (get? rl2 1) else some default).bind fun x12=>
        some ((((len p0.Kids) == 2) && (x11 == p0.W)) && (x12 == p0.W))
       else
        (Zl p0.Op 14 16).bind fun x13=>
        if x13 then
         (if ((len p0.Kids) == 2) then (get? rl2 0) else some default).bind fun x14=>
         (if ((len p0.Kids) == 2) then (get? rl2 1) else some default).bind fun x15=>
         some ((((len p0.Kids) == 2) && (x14 == x15)) && (p0.W == 1))
        else
         if (p0.Op == 17) then
          (if ((len p0.Kids) == 3) then (get? rl2 0) else some default).bind fun x16=>
          (if (((len p0.Kids) == 3) && (x16 == 1)) then (get? rl2 1) else some default).bind fun x17=>
          (if ((((len p0.Kids) == 3) && (x16 == 1)) && (x17 == p0.W)) then (get? rl2 2) else some default).bind fun x18=>
          some (((((len p0.Kids) == 3) && (x16 == 1)) && (x17 == p0.W)) && (x18 == p0.W))
         else
          if (p0.Op == 18) then
           (if ((len p0.Kids) == 2) then (get? rl2 0) else some default).bind fun x19=>
           (if ((len p0.Kids) == 2) then (get? rl2 1) else some default).bind fun x20=>
           some (((len p0.Kids) == 2) && ((w64 (x19 + x20)) == p0.W))
          else
           if (p0.Op == 19) then
            (if ((len p0.Kids) == 1) then (Zl p0.N 0 16) else some default).bind fun x21=>
            (if (((len p0.Kids) == 1) && x21) then (get? rl2 0) else some default).bind fun x22=>
            some ((((len p0.Kids) == 1) && x21) && (decide ((w64 (p0.N + p0.W)) ≤ x22)))
           else
            (Zl p0.Op 20 21).bind fun x23=>
            (if (x23 && ((len p0.Kids) == 1)) then (get? rl2 0) else some default).bind fun x24=>
            some ((x23 && ((len p0.Kids) == 1)) && (decide (x24 ≤ p0.W)))
   | .inr v=>some v) = some (nodesB p0.Kids && shB p0.Op p0.W p0.N p0.Name (p0.Kids.map (·.W))):=by
 have hl:=Zgy (l:=p0.Kids) (f:=fun x=>Yi n x) (b:=nodeB) ih (by omega) p0.Kids.length 0 (by omega) n (by omega)
 rw [show ((0:Nat):Int) = 0 from rfl] at hl
 rw [hl,Zpu,Yl]
 by_cases ha:p0.Kids.all nodeB = true
 ·rw [ha]
  have hkw:∀ x ∈ p0.Kids,1 ≤ x.W ∧ x.W ≤ 16:=fun x hx=>Yf (ZnP.1 ha x hx)
  simp only [ZnV,Zn4,ZoK,ZbC,Zcc,Zjs hs (show p0.Name.bytes.length < n by omega)]
  rw [ZlG (by omega)]
  simp only [Zn4]
  generalize hks:p0.Kids = ks
  rw [hks] at hkw
  obtain ⟨op,w,m,nm,_⟩:=p0
  simp only at hw ⊢
  have g0:∀ x y z:Int,get? [x,y,z] 0 = some x:=fun _ _ _=>rfl
  have g1:∀ x y z:Int,get? [x,y,z] 1 = some y:=fun _ _ _=>rfl
  have g2:∀ x y z:Int,get? [x,y,z] 2 = some z:=fun _ _ _=>rfl
  have q0:∀ x y z:D.Term,∀ l:List D.Term,((l.length:Int) + 1 + 1 + 1 + 1 == 0) = false:=fun x y z l=>by simp; omega
  have hA:ks = [] ∨ (∃ a:D.Term,ks = [a] ∧ 1 ≤ a.W ∧ a.W ≤ 16) ∨ (∃ a b:D.Term,ks = [a,b] ∧ (1 ≤ a.W ∧ a.W ≤ 16) ∧ 1 ≤ b.W ∧ b.W ≤ 16) ∨ (∃ a b c:D.Term,ks = [a,b,c]) ∨ ∃ (a b c d:D.Term) (l:List D.Term),ks = a :: b :: c :: d :: l:=by
   rcases ks with _ | ⟨a,_ | ⟨b,_ | ⟨c,_ | ⟨d,l⟩⟩⟩⟩
   ·exact .inl rfl
   ·exact .inr (.inl ⟨a,rfl,hkw a (by simp)⟩)
   ·exact .inr (.inr (.inl ⟨a,b,rfl,hkw a (by simp),hkw b (by simp)⟩))
   ·exact .inr (.inr (.inr (.inl ⟨a,b,c,rfl⟩)))
   ·exact .inr (.inr (.inr (.inr ⟨a,b,c,d,l,rfl⟩)))
  rcases hA with rfl | ⟨a,rfl,ha⟩ | ⟨a,b,rfl,ha,hb⟩ | ⟨a,b,c,rfl⟩ | ⟨a,b,c,d,l,rfl⟩
  ·simp only [pad3, Za, Zom, Zoy, g0, g1, g2, Zn4, ZcW]
   unfold shB
   by_cases o0:op = 0
   ·simp [o0]
   by_cases o1:op = 22
   ·simp [o1]
   simp [o0,o1]
  ·have e19 : ∀ h : 0 ≤ m ∧ m ≤ 16, w64 (m + w) = m + w := fun h => Ze (by omega) (by omega)
   simp only [pad3,Za,Zom,ZnL,Zoy,ZnE,g0,g1,g2,Zn4,ZcW]
   unfold shB
   by_cases o0:op = 0
   ·simp [o0]
   by_cases o1:op = 22
   ·simp [o1]
   by_cases o2:1 ≤ op ∧ op ≤ 2
   ·simp [o0,o1,o2]
   by_cases o3:3 ≤ op ∧ op ≤ 13
   ·simp [o0,o1,o2,o3]
   by_cases o4:14 ≤ op ∧ op ≤ 16
   ·simp [o0,o1,o2,o3,o4]
   by_cases o5:op = 17
   ·simp [o5]
   by_cases o6:op = 18
   ·simp [o6]
   by_cases o7:op = 19
   ·by_cases hm : 0 ≤ m ∧ m ≤ 16
    ·simp [o7,hm,e19 hm]
    ·simp [o7,hm]
   by_cases o8:20 ≤ op ∧ op ≤ 21
   ·simp [o0,o1,o2,o3,o4,o5,o6,o7,o8]
   simp [o0,o1,o2,o3,o4,o5,o6,o7,o8]
  ·have e18 : w64 (a.W + b.W) = a.W + b.W := Ze (by omega) (by omega)
   simp only [pad3,Za,Zom,ZnL,Zoy,ZnE,g0,g1,g2,Zn4,ZcW,e18]
   unfold shB
   by_cases o0:op = 0
   ·simp [o0]
   by_cases o1:op = 22
   ·simp [o1]
   by_cases o2:1 ≤ op ∧ op ≤ 2
   ·simp [o0,o1,o2]
   by_cases o3:3 ≤ op ∧ op ≤ 13
   ·by_cases c : a.W = w
    ·simp [o0,o1,o2,o3,c]
    ·have c' : (a.W == w) = false := by simpa using c
     simp [o0,o1,o2,o3,c,c']
   by_cases o4:14 ≤ op ∧ op ≤ 16
   ·simp [o0,o1,o2,o3,o4]
   by_cases o5:op = 17
   ·simp [o5]
   by_cases o6:op = 18
   ·simp [o6,e18]
   by_cases o7:op = 19
   ·simp [o7]
   simp [o0,o1,o2,o3,o4,o5,o6,o7]
  ·simp only [pad3, Za, Zom, ZnL, Zoy, ZnE, g0, g1, g2, Zn4, ZcW]
   unfold shB
   by_cases o0:op = 0
   ·simp [o0]
   by_cases o1:op = 22
   ·simp [o1]
   by_cases o2:1 ≤ op ∧ op ≤ 2
   ·simp [o0,o1,o2]
   by_cases o3:3 ≤ op ∧ op ≤ 13
   ·simp [o0,o1,o2,o3]
   by_cases o4:14 ≤ op ∧ op ≤ 16
   ·simp [o0,o1,o2,o3,o4]
   by_cases o5:op = 17
   ·by_cases c1 : a.W = 1
    ·by_cases c2 : b.W = w
     ·simp [o5,c1,c2]
     ·have c2' : (b.W == w) = false := by simpa using c2
      simp [o5,c1,c2,c2']
    ·have c1' : (a.W == 1) = false := by simpa using c1
     simp [o5,c1,c1']
   by_cases o6:op = 18
   ·simp [o6]
   by_cases o7:op = 19
   ·simp [o7]
   simp [o0,o1,o2,o3,o4,o5,o6,o7]
  ·have e0 : (len (a :: b :: c :: d :: l) == 0) = false := by rw [Za]; simp; omega
   have e1:(len (a :: b :: c :: d :: l) == 1) = false:=by rw [Za]; simp; omega
   have e2:(len (a :: b :: c :: d :: l) == 2) = false:=by rw [Za]; simp; omega
   have e3:(len (a :: b :: c :: d :: l) == 3) = false:=by rw [Za]; simp; omega
   simp only [pad3,ZnE,g0,g1,g2,Zn4,ZcW,e0,e1,e2,e3,Zqr,Zqs,ZnI,Zn6]
   unfold shB
   simp
 ·rw [Bool.not_eq_true] at ha
  rw [ha]
  simp
theorem Zj0:∀ (n:Nat) (t:D.Term),msz t ≤ 1048576 → 1048580 + cnt t ≤ n → Yi n t = some (nodeB t):=by
 intro n
 induction n with
 | zero=>intro t _ _; omega
 | succ n ih=>
  intro t hs hn
  have hz:=ZbK t
  have hc:=Xk t
  have ih':∀ x ∈ t.Kids,Yi n x = some (nodeB x):=fun x hx=>by
   have:=Zbq hx
   have:=Xn hx
   exact ih x (by omega) (by omega)
  have e0:∀ c:Bool,nodeB t = (decide (1 ≤ t.W ∧ t.W ≤ 16) && (Str.eqb t.Name ⟨[]⟩ || t.Op == 22) && (t.N == 0 || t.Op == 0 || t.Op == 19) && (nodesB t.Kids && shB t.Op t.W t.N t.Name (t.Kids.map (·.W)))):=fun _=>by
   rw [Zam]; unfold locB
   cases nodesB t.Kids <;> simp
  have e0:=e0 true
  unfold Yi
  rw [ZbC]
  simp only [Zn4]
  have hx:∀ a b c d e f:Bool,((!a || (!b && !c)) || ((!d && !e) && !f)) = !(a && (b || c) && (d || e || f)):=by decide
  rw [show ((!decide (1 ≤ t.W ∧ t.W ≤ 16) || ((!Str.eqb t.Name ⟨[]⟩) && (t.Op != 22))) || (((t.N != 0) && (t.Op != 0)) && (t.Op != 19))) = _ from hx _ _ _ _ _ _]
  cases c:(decide (1 ≤ t.W ∧ t.W ≤ 16) && (Str.eqb t.Name ⟨[]⟩ || t.Op == 22) && (t.N == 0 || t.Op == 0 || t.Op == 19))
  ·rw [e0,c]; rfl
  ·have hw:1 ≤ t.W ∧ t.W ≤ 16:=by
    simp only [ZnB,ZnO] at c
    exact c.1.1
   rw [e0,c,ZnA (by decide),ZoK]
   exact Zlj ih' (by omega) (by omega) (by omega) hw
set_option linter.unusedSimpArgs false
theorem ZkV:∀ x:List UInt8,Op.bytesLess x x = false
 | []=>rfl
 | a :: x=>by simp [Op.bytesLess,ZkV x]
theorem ZgS:∀ x y z:List UInt8,Op.bytesLess x y = true → Op.bytesLess y z = true → Op.bytesLess x z = true
 | _,_,[]=>by intro _ h; cases ‹List UInt8› <;> simp [Op.bytesLess] at h
 | _,[],_ :: _=>by intro h _; cases ‹List UInt8› <;> simp [Op.bytesLess] at h
 | [],_ :: _,_ :: _=>by intro _ _; rfl
 | a :: x,b :: y,c :: z=>by
  intro h1 h2
  simp only [Op.bytesLess,Zo6,ZnO,ZnB,ZoN] at h1 h2 ⊢
  rcases h1 with h1 | ⟨rfl,h1⟩
  ·rcases h2 with h2 | ⟨rfl, h2⟩
   ·exact .inl (UInt8.lt_trans h1 h2)
   ·exact .inl h1
  ·rcases h2 with h2 | ⟨rfl, h2⟩
   ·exact .inl h2
   ·exact .inr ⟨rfl,ZgS x y z h1 h2⟩
theorem ZkM:∀ x y:List UInt8,Op.bytesLess x y = false → x ≠ y → Op.bytesLess y x = true
 | [],[]=>fun _ h=>absurd rfl h
 | _ :: _,[]=>fun _ _=>rfl
 | [],_ :: _=>fun h _=>by simp [Op.bytesLess] at h
 | a :: x,b :: y=>by
  intro h1 h2
  simp only [Op.bytesLess,ZpN,decide_eq_false_iff_not,Zo6,ZnO,ZnB,ZoN] at h1 ⊢
  by_cases e:a = b
  ·subst e
   have:Op.bytesLess x y = false:=by simpa using h1.2
   exact .inr ⟨rfl,ZkM x y this (fun h=>h2 (by rw [h]))⟩
  ·rcases UInt8.lt_or_lt_of_ne e with h | h
   ·exact absurd h h1.1
   ·exact .inl h
theorem toList_mk (l:List UInt8):(ByteArray.mk l.toArray).toList = l:=by
 exact (Lib.toList_data _)
theorem ZhW (a b:Str):Str.ltb a b = Op.bytesLess a.bytes b.bytes:=by unfold Str.ltb; rw [toList_mk,toList_mk]
theorem Zbv (a b:Str):Str.eqb a b = decide (a = b):=by
 unfold Str.eqb
 rw [toList_mk,toList_mk]
 by_cases h:a = b
 ·subst h; simp
 ·have : a.bytes ≠ b.bytes := fun e => h (by cases a; cases b; simpa using e)
  simp [h,this]
theorem Znb (a:Str):Str.ltb a a = false:=by rw [ZhW]; exact ZkV _
theorem lt_trans {a b c:Str} (h1:Str.ltb a b = true) (h2:Str.ltb b c = true):Str.ltb a c = true:=by rw [ZhW] at *; exact ZgS _ _ _ h1 h2
theorem Znd {a b:Str} (h1:Str.ltb a b = false) (h2:a ≠ b):Str.ltb b a = true:=by
 rw [ZhW] at *
 exact ZkM _ _ h1 fun e=>h2 (by cases a; cases b; simpa using e)
mutual
def vrs:D.Term → List (Str × Int)
 | ⟨o,w,_,s,k⟩=>if o = 22 then [(s,w)] else vrss k
def vrss:List D.Term → List (Str × Int)
 | []=>[]
 | x :: l=>vrs x ++ vrss l
end
theorem XR (t:D.Term):vrs t = if t.Op = 22 then [(t.Name,t.W)] else vrss t.Kids:=by cases t; rw [vrs]
theorem Xj (x:D.Term) (l:List D.Term):vrss (x :: l) = vrs x ++ vrss l:=by rw [vrss]
theorem ZaD:vrss [] = []:=by rw [vrss]
def stp (g:List (Str × Int)) (v:Str × Int):Option (List (Str × Int)):=
 match g.lookup v.1 with
 | some w=>if w = v.2 then some g else none
 | none=>some (v :: g)
def runV (g:List (Str × Int)):List (Str × Int) → Option (List (Str × Int))
 | []=>some g
 | v :: l=>(stp g v).bind fun g'=>runV g' l
theorem ZgO (l m:List (Str × Int)):∀ g,runV g (l ++ m) = (runV g l).bind fun g'=>runV g' m:=by
 induction l with
 | nil=>intro g; rfl
 | cons v l ih=>
  intro g
  simp only [Zpx,runV]
  cases stp g v with
  | none=>rfl
  | some g'=>simp only [Zn4]; exact ih g'
theorem Zia {g g':List (Str × Int)} {v:Str × Int} (h:stp g v = some g'):g'.length ≤ g.length + 1:=by
 unfold stp at h
 split at h
 ·split at h
  ·cases h; omega
  ·cases h
 ·cases h; simp
theorem Zeq:∀ {l g g':List (Str × Int)},runV g l = some g' → g'.length ≤ g.length + l.length
 | [],g,g',h=>by simp only [runV,Option.some.injEq] at h; subst h; simp
 | v :: l,g,g',h=>by
  simp only [runV,Zod] at h
  obtain ⟨g1,h1,h2⟩:=h
  have:=Zia h1
  have:=Zeq h2
  simp only [ZnL]; omega
def Rel (l:List D.Value) (g:List (Str × Int)):Prop:=
 l.Pairwise (fun a b=>Str.ltb a.Name b.Name = true) ∧ l.length = g.length ∧ (∀ v ∈ l,g.lookup v.Name = some v.W) ∧ ∀ s w,g.lookup s = some w → ∃ v ∈ l,v.Name = s
def before (s:Str) (l:List D.Value):Nat:=(l.takeWhile fun v=>Str.ltb v.Name s).length
theorem Zd1 (s:Str) (l:List D.Value):before s l ≤ l.length:=(List.takeWhile_sublist _).length_le
theorem ZbZ {s:Str}:∀ {l:List D.Value} {i:Nat} {v:D.Value},i < before s l → l[i]? = some v → Str.ltb v.Name s = true
 | [],i,v,h,hv=>by simp at hv
 | x :: l,i,v,h,hv=>by
  unfold before at h
  rw [List.takeWhile_cons] at h
  split at h
  ·cases i with
   | zero=>simp at hv; subst hv; assumption
   | succ i=>exact ZbZ (l:=l) (i:=i) (by unfold before; simpa using h) (by simpa using hv)
  ·simp at h
theorem Zch {s:Str}:∀ {l:List D.Value} {v:D.Value},l[before s l]? = some v → Str.ltb v.Name s = false
 | [],v,hv=>by simp at hv
 | x :: l,v,hv=>by
  unfold before at hv
  rw [List.takeWhile_cons] at hv
  by_cases h:Str.ltb x.Name s = true
  ·rw [ZnC h] at hv
   exact Zch (l:=l) (by unfold before; simpa using hv)
  ·rw [ZnA h] at hv
   simp at hv; subst hv
   simpa using h
theorem Zkv {l:List D.Value} {s:Str} {n:Nat} (hl:l.length ≤ 1048576) (hn:l.length < n):iterN (fun (s1:Int)=>
   (if (decide (s1 < (len l))) then (get? l s1) else some default).bind fun x1=>
   if ((decide (s1 < (len l))) && (Str.ltb x1.Name s)) then
    some (.inl ((w64 (s1 + 1))))
   else
    some (.inr (s1))
  ) n (0) = some (before s l:Int):=by
 obtain ⟨r,g1,g2⟩:=Yk (l:=l) (n:=n) (σ:=Unit) (ρ:=Int) (B:=fun (s1:Int)=>
   (if (decide (s1 < (len l))) then (get? l s1) else some default).bind fun x1=>
   if ((decide (s1 < (len l))) && (Str.ltb x1.Name s)) then
    some (.inl ((w64 (s1 + 1))))
   else
    some (.inr (s1))) (fun k _=>(k:Int)) (fun ys _=>l.length ≤ before s l + ys.length) (fun r=>r = (before s l:Int))
  (fun k x xs a hk' hx hlen hi => by
   simp only [ZnL] at hlen hi
   have hd:decide ((k:Int) < len l) = true:=by rw [Za]; simp; omega
   rw [ZnC hd,get?_nat,hx]
   simp only [Zn4,hd,ZoK]
   by_cases c:Str.ltb x.Name s = true
   ·refine .inl ⟨(), by rw [ZnC c, Ze (by omega) (by omega)]; rfl, ?_⟩
    have:k ≠ before s l:=fun e=>by
     rw [e] at hx
     rw [Zch hx] at c; cases c
    omega
   ·refine .inr ⟨(k : Int), by rw [ZnA c], ?_⟩
    have:¬ k < before s l:=fun h=>c (ZbZ h hx)
    omega)
  (fun a hi => by
   have hd:decide ((l.length:Int) < len l) = false:=by rw [Za]; simp
   simp only [hd,Zn6,ZnI,Zn4,Zqr]
   have:=Zd1 s l
   exact ⟨_,rfl,by simp at hi; omega⟩) (a:=()) (by omega) hn
 rw [show ((0:Nat):Int) = 0 from rfl] at g1
 rw [g1,g2]
theorem Rel.none {l:List D.Value} {g:List (Str × Int)} {s:Str} (h:Rel l g) (hn:∀ v,l[before s l]? = some v → v.Name ≠ s):g.lookup s = none:=by
 cases e:g.lookup s with
 | none=>rfl
 | some w=>
  exfalso
  obtain ⟨v,hv,rfl⟩:=h.2.2.2 s w e
  obtain ⟨j,hj⟩:=Zpm.1 hv
  rcases Zqn j (before v.Name l) with h1 | h1 | h1
  ·have := ZbZ h1 hj
   rw [Znb] at this; cases this
  ·rw [h1] at hj; exact hn v hj rfl
  ·obtain ⟨hj', e2⟩ := Zn9.1 hj
   have hu:l[before v.Name l]? = some l[before v.Name l]:=Zn5 (by omega)
   have h2:=Zch hu
   have h3:=Zpf.1 h.1 _ _ (by omega) hj' h1
   rw [e2] at h3
   rw [h2] at h3; cases h3
theorem Rel.put {l:List D.Value} {g:List (Str × Int)} {s:Str} {w:Int} (h:Rel l g) (hn:∀ v,l[before s l]? = some v → v.Name ≠ s):Rel (l.take (before s l) ++ [⟨s,w,0⟩] ++ l.drop (before s l)) ((s,w) :: g):=by
 have hno:=h.none hn
 have hb:=Zd1 s l
 have hlt:∀ v ∈ l.take (before s l),Str.ltb v.Name s = true:=fun v hv=>by
  obtain ⟨j,hj⟩:=Zpm.1 hv
  rw [Zok] at hj
  split at hj
  ·exact ZbZ (by assumption) hj
  ·cases hj
 have hgt:∀ v ∈ l.drop (before s l),Str.ltb s v.Name = true:=fun v hv=>by
  obtain ⟨j,hj⟩:=Zpm.1 hv
  rw [ZoC] at hj
  obtain ⟨hj',e2⟩:=Zn9.1 hj
  have hu:l[before s l]? = some l[before s l]:=Zn5 (by omega)
  have h1:=Znd (Zch hu) (hn _ hu)
  rcases Nat.eq_zero_or_pos j with rfl | hp
  ·simp only [ZoQ] at e2; rw [← e2]; exact h1
  ·have h3 := Zpf.1 h.1 _ _ (by omega) hj' (show before s l < before s l + j by omega)
   rw [e2] at h3
   exact lt_trans h1 h3
 have hmem:∀ v,v ∈ l.take (before s l) ++ [⟨s,w,0⟩] ++ l.drop (before s l) ↔ v = ⟨s,w,0⟩ ∨ v ∈ l:=fun v=>by
  have:v ∈ l ↔ v ∈ l.take (before s l) ∨ v ∈ l.drop (before s l):=by
   rw [← ZnS,Zo0]
  simp only [ZnS,ZnX,this]
  grind
 have hp:(l.take (before s l) ++ l.drop (before s l)).Pairwise (fun a b=>Str.ltb a.Name b.Name = true):=by rw [Zo0]; exact h.1
 rw [ZpA] at hp
 refine ⟨?_,?_,fun v hv=>?_,fun s' w' hs=>?_⟩
 ·rw [Zoh, ZpA]
  refine ⟨hp.1,?_,fun a ha b hb=>?_⟩
  ·rw [Zox, Zpq]
   exact ⟨fun b hb=>hgt b hb,hp.2.1⟩
  ·rw [Zox] at hb
   rcases Zof.1 hb with rfl | hb
   ·exact hlt a ha
   ·exact hp.2.2 a ha b hb
 ·have := h.2.1
  simp; omega
 ·rcases (hmem v).1 hv with rfl | hv
  ·simp
  ·have h1 := h.2.2.1 v hv
   have:v.Name ≠ s:=fun e=>by rw [e,hno] at h1; cases h1
   rw [Zoi]
   have:(v.Name == s) = false:=by simpa using this
   rw [this]; exact h1
 ·rw [Zoi] at hs
  by_cases e:s' = s
  ·exact ⟨_,(hmem _).2 (.inl rfl),e.symm⟩
  ·have : (s' == s) = false := by simpa using e
   rw [this] at hs
   obtain ⟨v,h1,h2⟩:=h.2.2.2 s' w' hs
   exact ⟨v,(hmem _).2 (.inr h1),h2⟩
theorem ZlJ:∀ n:Nat,(∀ t:D.Term,msz t < n → (vrs t).length ≤ cnt t) ∧ ∀ l:List D.Term,l.length + mszs l < n → (vrss l).length ≤ cnts l:=by
 intro n
 induction n with
 | zero=>exact ⟨fun _ h=>by omega,fun _ h=>by omega⟩
 | succ n ih=>
  have hT:∀ t:D.Term,msz t < n + 1 → (∀ l:List D.Term,l.length + mszs l < n + 1 → (vrss l).length ≤ cnts l) → (vrs t).length ≤ cnt t:=fun t h hl=>by
   have:=ZbK t
   rw [XR,Xk]
   split
   ·simp
   ·have:=hl t.Kids (by omega); omega
  have hL:∀ l:List D.Term,l.length + mszs l < n + 1 → (vrss l).length ≤ cnts l:=fun l h=>by
   cases l with
   | nil=>rw [ZaD,ZaX]; simp
   | cons x l=>
    rw [Y1] at h
    simp only [ZnL] at h
    rw [Xj,ZaV,ZnD]
    have h1:=ih.1 x (by omega)
    have h2:=ih.2 l (by omega)
    omega
  exact ⟨fun t h=>hT t h hL,hL⟩
theorem Zey (t:D.Term):(vrs t).length ≤ cnt t:=(ZlJ (msz t + 1)).1 t (by omega)
theorem ZeZ:∀ (n:Nat) (t:D.Term) (l:List D.Value) (g:List (Str × Int)),msz t ≤ 1048576 → Rel l g → g.length + (vrs t).length ≤ 1000 → 1048580 + cnt t ≤ n →
  ∃ l' b,ZP n t l = some (l',b) ∧ (b = true → ∃ g',runV g (vrs t) = some g' ∧ Rel l' g') ∧ (b = false → runV g (vrs t) = none):=by
 intro n
 induction n with
 | zero=>intro t l g _ _ _ _; omega
 | succ n ih=>
  intro t l g hs hr hg hn
  have hz:=ZbK t
  have hc:=Xk t
  have hlen:=hr.2.1
  unfold ZP
  by_cases ho:t.Op = 22
  ·rw [ZnC (by simpa using ho), Zkv (by omega) (by omega)]
   simp only [Zn4]
   have hb:=Zd1 t.Name l
   have hv:vrs t = [(t.Name,t.W)]:=by rw [XR,ZnC ho]
   rw [hv]
   have hrun:runV g [(t.Name,t.W)] = stp g (t.Name,t.W):=by
    simp only [runV]; cases stp g (t.Name,t.W) <;> rfl
   rw [hrun]
   by_cases hf:∃ v,l[before t.Name l]? = some v ∧ v.Name = t.Name
   ·obtain ⟨v, hv1, hv2⟩ := hf
    obtain ⟨hlt,-⟩:=Zn9.1 hv1
    have hd:decide ((before t.Name l:Int) < len l) = true:=by rw [Za]; simp; omega
    have hk:g.lookup t.Name = some v.W:=by rw [← hv2]; exact hr.2.2.1 v (ZnN hv1)
    simp only [hd,ZnV,get?_nat,hv1,Zn4,ZoK,Zbv,hv2,decide_true]
    refine ⟨_,_,rfl,fun h=>⟨g,?_,hr⟩,fun h=>?_⟩
    ·unfold stp; rw [hk]; simp only; rw [ZnC (by simpa using h)]
    ·unfold stp; rw [hk]; simp only; rw [ZnA (by simpa using h)]
   ·have hne : ∀ v, l[before t.Name l]? = some v → v.Name ≠ t.Name := fun v h e => hf ⟨v, h, e⟩
    have hno:=hr.none hne
    have hx:∃ x2,(if (decide ((before t.Name l:Int) < (len l))) = true then (get? l (before t.Name l:Int)) else some default) = some x2 ∧ (decide ((before t.Name l:Int) < (len l)) && Str.eqb x2.Name t.Name) = false:=by
     by_cases hlt:before t.Name l < l.length
     ·have hd : decide ((before t.Name l : Int) < len l) = true := by rw [Za]; simp; omega
      refine ⟨l[before t.Name l],?_,?_⟩
      ·rw [ZnC hd,get?_nat,Zn5 hlt]
      ·rw [Zbv,decide_eq_false (hne _ (Zn5 hlt))]; simp
     ·have hd : decide ((before t.Name l : Int) < len l) = false := by rw [Za]; simp; omega
      exact ⟨default,by rw [hd]; rfl,by rw [hd]; rfl⟩
    obtain ⟨x2,hx1,hx2⟩:=hx
    rw [hx1]
    simp only [Zn4,hx2,Zn6,ZnI]
    have c1:cut? l 0 (before t.Name l:Int) = some (l.take (before t.Name l)):=by
     unfold cut?; rw [ZnC ⟨by omega,by omega,by omega⟩]; simp
    have c2:cut? l (before t.Name l:Int) (len l) = some (l.drop (before t.Name l)):=by
     unfold cut?; rw [Za,ZnC ⟨by omega,by omega,by omega⟩]; simp
    have c3:app? ([]:List D.Value) (l.take (before t.Name l)) = some (l.take (before t.Name l)):=by
     unfold app?; rw [ZnC (by unfold room; simp; omega)]; rfl
    have c4:app? (l.take (before t.Name l)) [(⟨t.Name,t.W,0⟩ : D.Value)] = some (l.take (before t.Name l) ++ [⟨t.Name,t.W,0⟩]):=by
     unfold app?; rw [ZnC (by unfold room; simp; omega)]
    have c5:app? (l.take (before t.Name l) ++ [(⟨t.Name,t.W,0⟩ : D.Value)]) (l.drop (before t.Name l)) = some (l.take (before t.Name l) ++ [⟨t.Name,t.W,0⟩] ++ l.drop (before t.Name l)):=by
     unfold app?; rw [ZnC (by unfold room; simp; omega)]
    simp only [c1,c2,c3,c4,c5,Zn4]
    refine ⟨_,_,rfl,fun _=>⟨(t.Name,t.W) :: g,?_,hr.put hne⟩,fun h=>by cases h⟩
    unfold stp; rw [hno]
  ·rw [ZnA (by simpa using ho)]
   have hv:vrs t = vrss t.Kids:=by rw [XR,ZnA ho]
   rw [hv] at hg ⊢
   obtain ⟨r,g1,g2⟩:=Yk (l:=t.Kids) (n:=n) (σ:=List D.Value) (ρ:=(List D.Value) ⊕ ((List D.Value) × Bool)) (B:=fun (s2:Int × (List D.Value))=>
     if (decide (s2.1 < (len t.Kids))) then
      (get? t.Kids s2.1).bind fun x9=>
      (ZP n x9 s2.2).bind fun x10=>
      if (!x10.2) then
       some (.inr (.inr (([]:List D.Value),false)))
      else
       some (.inl ((w64 (s2.1 + 1)),x10.1))
     else
      some (.inr (.inl (s2.2)))) (fun k a=>((k:Int),a)) (fun ys a=>∃ ga,Rel a ga ∧ runV ga (vrss ys) = runV g (vrss t.Kids) ∧ ga.length + (vrss ys).length ≤ 1000 ∧ ∀ x ∈ ys,x ∈ t.Kids)
     (fun r=>(∃ l',r = .inl l' ∧ ∃ g',runV g (vrss t.Kids) = some g' ∧ Rel l' g') ∨ (r = .inr ([],false) ∧ runV g (vrss t.Kids) = none))
     (fun k x xs a hk' hx hlen ⟨ga, i0, i1, i2, i3⟩ => by
      have hxk:=i3 x (by simp)
      have:=Zbq hxk
      have:=Xn hxk
      rw [Xj,ZgO] at i1
      rw [Xj,ZnD] at i2
      obtain ⟨l',b,e1,e2,e3⟩:=ih x a ga (by omega) i0 (by omega) (by omega)
      have hd:decide ((k:Int) < len t.Kids) = true:=by rw [Za]; simp; omega
      simp only [hd,ZnV,get?_nat,hx,Zn4,e1]
      cases b with
      | false=>
       refine .inr ⟨_,rfl,.inr ⟨rfl,?_⟩⟩
       rw [e3 rfl] at i1; exact i1.symm
      | true=>
       obtain ⟨g',h1,h2⟩:=e2 rfl
       refine .inl ⟨l',by simp only [ZnY,Zn6,ZnI]; rw [Ze (by omega) (by omega)]; rfl,g',h2,?_,?_,fun y hy=>i3 y (by simp [hy])⟩
       ·rw [h1] at i1; exact i1
       ·have:=Zeq h1; omega)
     (fun a ⟨ga, i0, i1, i2, i3⟩ => by
      have hd:decide ((t.Kids.length:Int) < len t.Kids) = false:=by rw [Za]; simp
      simp only [hd,Zn6,ZnI]
      rw [ZaD] at i1
      exact ⟨_,rfl,.inl ⟨a,rfl,ga,i1.symm,i0⟩⟩) (a:=l) ⟨g,hr,rfl,hg,fun x hx=>hx⟩ (by omega)
   rw [show ((0:Nat):Int) = 0 from rfl] at g1
   rw [g1]
   rcases g2 with ⟨l',rfl,g',h1,h2⟩ | ⟨rfl,h1⟩
   ·exact ⟨l',true,rfl,fun _=>⟨g',h1,h2⟩,fun h=>by cases h⟩
   ·exact ⟨[],false,rfl,fun h=>(by cases h),fun _=>h1⟩
def termB (t:D.Term):Bool:=decide (cnt t ≤ 240) && nodeB t && (runV [] (vrs t)).isSome
theorem Zck {t:D.Term} (h:msz t ≤ 1048576):XK fuel t = some (termB t):=by
 unfold XK termB
 rw [few fuel t 240 h (by omega) (by omega) (by unfold fuel; omega)]
 simp only [Zn4]
 by_cases hc:cnt t ≤ 240
 ·have e : decide (lf 240 (cnt t) ≥ 0) = true := by unfold lf; rw [ZnA (by omega)]; simp; omega
  rw [Zj0 fuel t h (by unfold fuel; omega)]
  simp only [e,ZnY,Zn6,ZnI,Zn4,hc,decide_true,ZoK]
  cases hb:nodeB t
  ·simp
  ·have hv := Zey t
   obtain ⟨l',b,e1,e2,e3⟩:=ZeZ fuel t [] [] h ⟨List.Pairwise.nil,rfl,by simp,by simp⟩ (by simp; omega) (by unfold fuel; omega)
   rw [e1]
   cases b with
   | false=>rw [e3 rfl]; rfl
   | true=>obtain ⟨g',h1,-⟩:=e2 rfl; rw [h1]; rfl
 ·have e : decide (lf 240 (cnt t) ≥ 0) = false := by unfold lf; rw [ZnC (by omega)]; rfl
  simp [e,hc]
theorem Zjp {n:Nat} {s:Str} (hl:s.bytes.length ≤ 1048576) (hn:s.bytes.length < n):Zao n s = some (nameB s):=by
 unfold Zao
 by_cases hlen:1 ≤ s.bytes.length ∧ s.bytes.length ≤ 8
 ·rw [ZnA (by rw [Za]; simp; omega)]
  obtain ⟨r,g1,g2⟩:=Yk (l:=s.bytes) (n:=n) (σ:=Unit) (ρ:=Unit ⊕ Bool) (B:=fun (s1:Int)=>
   if (decide (s1 < (len s.bytes))) then
    (sidx? s s1).bind fun x1=>
    (if (decide (x1 ≥ 97)) then (sidx? s s1) else some default).bind fun x2=>
    (sidx? s s1).bind fun x3=>
    (if (decide (x3 ≥ 48)) then (sidx? s s1) else some default).bind fun x4=>
    if ((!((decide (x1 ≥ 97)) && (decide (x2 ≤ 122)))) && (!(((decide (x3 ≥ 48)) && (decide (x4 ≤ 57))) && (decide (s1 > 0))))) then
     some (.inr (.inr false))
    else
     some (.inl ((w64 (s1 + 1))))
   else
    some (.inr (.inl ()))) (fun k _=>(k:Int)) (fun ys _=>okF (s.bytes.length - ys.length) ys = okF 0 s.bytes) (fun r=>r = if okF 0 s.bytes then (.inl ():Unit ⊕ Bool) else .inr false)
   (fun k x xs a hk' hx hlen hi => by
    have e1:s.bytes.length - (x :: xs).length = k:=by omega
    have e2:s.bytes.length - xs.length = k + 1:=by simp at hlen; omega
    rw [e1] at hi
    rw [e2]
    have hb:=x.toNat_lt
    rw [← hi]
    simp only [ZgI hx,Zn4]
    rw [ZnC (by rw [Za]; simp; omega),Ze (by omega) (by omega)]
    have hd:∀ c:Bool,∃ y:Int,(if c = true then (some (x.toNat:Int)) else some default) = some y ∧ (c = true → y = x.toNat):=fun c=>by
     cases c
     ·exact ⟨_,rfl,fun h=>by cases h⟩
     ·exact ⟨_,rfl,fun _=>rfl⟩
    obtain ⟨y2,h2,i2⟩:=hd (decide ((x.toNat:Int) ≥ 97))
    obtain ⟨y4,h4,i4⟩:=hd (decide ((x.toNat:Int) ≥ 48))
    rw [h2,h4]
    simp only [Zn4]
    have j2:(decide ((x.toNat:Int) ≥ 97) && decide (y2 ≤ 122)) = decide (97 ≤ x.toNat ∧ x.toNat ≤ 122):=by
     by_cases c:(x.toNat:Int) ≥ 97
     ·rw [i2 (by simpa using c),Zpr]; simp only [ZnB,ZnO]; omega
     ·rw [Zpr]; simp only [ZnB,ZnO]; omega
    have j4:(decide ((x.toNat:Int) ≥ 48) && decide (y4 ≤ 57)) = decide (48 ≤ x.toNat ∧ x.toNat ≤ 57):=by
     by_cases c:(x.toNat:Int) ≥ 48
     ·rw [i4 (by simpa using c),Zpr]; simp only [ZnB,ZnO]; omega
     ·rw [Zpr]; simp only [ZnB,ZnO]; omega
    rw [j2,j4,Zgb]
    by_cases c1:97 ≤ x.toNat ∧ x.toNat ≤ 122
    ·exact .inl ⟨(),by simp [c1],by simp [c1]⟩
    ·by_cases c3 : 48 ≤ x.toNat ∧ x.toNat ≤ 57
     ·by_cases c2 : k = 0
      ·subst c2
       exact .inr ⟨.inr false,by simp [c1,c3],by simp [c1]⟩
      ·have : (0 : Int) < (k : Int) := by omega
       exact .inl ⟨(),by simp [c1,c3,this,c2],by simp [c1,c2,c3]⟩
     ·exact .inr ⟨.inr false,by simp [c1,c3],by simp [c1,c3]⟩)
   (fun a hi => by
    rw [ZnA (by rw [Za]; simp)]
    refine ⟨_,rfl,?_⟩
    rw [← hi]; simp [okF]) (a:=()) (by simp) hn
  rw [show ((0:Nat):Int) = 0 from rfl] at g1
  rw [g1,g2]
  unfold nameB
  rw [decide_eq_true hlen]
  cases okF 0 s.bytes <;> rfl
 ·rw [ZnC (by rw [Za]; simp; omega)]
  unfold nameB
  rw [decide_eq_false hlen]; simp
def kc (o:Int):Int:=(Yv o).getD 0
theorem ZmJ (o:Int):Yv o = some (kc o):=by
 unfold kc
 have:∃ k,Yv o = some k:=by
  unfold Yv
  split
  ·exact ⟨_,rfl⟩
  ·split
   ·exact ⟨_,rfl⟩
   ·split
    ·exact ⟨_,rfl⟩
    ·split
     ·exact ⟨_,rfl⟩
     ·exact ⟨_,rfl⟩
 obtain ⟨k,h⟩:=this
 rw [h]; rfl
theorem Zg4 (w:Int):Yu w = some (decide (1 ≤ w ∧ w ≤ 16)):=by simp [Yu]
theorem Zl9 {t:D.Term} (hw:1 ≤ t.W ∧ t.W ≤ 16) (hk:∀ x ∈ t.Kids,1 ≤ x.W ∧ x.W ≤ 16) (hl:(t.Kids.length:Int) = kc t.Op) :
  ∃ f,Xt t = some f ∧ shB t.Op t.W t.N t.Name (t.Kids.map (·.W)) = (f && (t.Op != 0 || wordB t.W t.N) && (t.Op != 22 || nameB t.Name)):=by
 obtain ⟨op,w,m,nm,ks⟩:=t
 simp only at hw hk hl ⊢
 unfold Xt shB
 simp only
 have g0:∀ (x:D.Term) (l:List D.Term),get? (x :: l) 0 = some x:=fun _ _=>rfl
 have g1:∀ (x y:D.Term) (l:List D.Term),get? (x :: y :: l) 1 = some y:=fun _ _ _=>rfl
 have g2:∀ (x y z:D.Term) (l:List D.Term),get? (x :: y :: z :: l) 2 = some z:=fun _ _ _ _=>rfl
 have l0:ks.length = 0 → ks = []:=fun h=>ZpD.1 h
 have l1:ks.length = 1 → ∃ a,ks = [a]:=fun h=>List.length_eq_one_iff.1 h
 have l2:ks.length = 2 → ∃ a b,ks = [a,b]:=fun h=>by
  rcases ks with _ | ⟨a,_ | ⟨b,_ | ⟨c,l⟩⟩⟩ <;> simp at h
  exact ⟨_,_,rfl⟩
 have l3:ks.length = 3 → ∃ a b c,ks = [a,b,c]:=fun h=>by
  rcases ks with _ | ⟨a,_ | ⟨b,_ | ⟨c,_ | ⟨d,l⟩⟩⟩⟩ <;> simp at h
  exact ⟨_,_,_,rfl⟩
 unfold kc Yv at hl
 by_cases o0:op = 0
 ·subst o0
  obtain rfl:=l0 (by simp at hl; simp [hl])
  exact ⟨true,by simp,by simp⟩
 by_cases o1:op = 22
 ·subst o1
  obtain rfl:=l0 (by simp at hl; simp [hl])
  exact ⟨true,by simp,by simp⟩
 have q0:(op != 0) = true:=by simpa using o0
 have q1:(op != 22) = true:=by simpa using o1
 by_cases o2:1 ≤ op ∧ op ≤ 2
 ·have : op = 1 ∨ op = 2 := by omega
  obtain ⟨a,rfl⟩:=l1 (by rcases this with rfl | rfl <;> simp at hl <;> omega)
  refine ⟨a.W == w,?_,?_⟩
  ·rcases this with rfl | rfl <;> simp [g0]
  ·simp [o0,o1,o2,q0,q1]
 by_cases o3:3 ≤ op ∧ op ≤ 13
 ·obtain ⟨a,b,rfl⟩:=l2 (by
   have h1:¬ (op = 1):=by omega
   have h2:¬ (op = 2):=by omega
   have h3:¬ (op = 19):=by omega
   have h4:¬ (op = 20):=by omega
   have h5:¬ (op = 21):=by omega
   have h6:3 ≤ op ∧ op ≤ 16:=by omega
   simp [o0,o1,h1,h2,h3,h4,h5,h6] at hl; omega)
  refine ⟨a.W == w && b.W == w,?_,?_⟩
  ·have h1 : ¬ (op = 1) := by omega
   have h2:¬ (op = 2):=by omega
   by_cases c:a.W = w
   ·simp [g0,g1,o0,o1,h1,h2,o3,c]
   ·have c' : (a.W == w) = false := by simpa using c
    simp [g0,g1,o0,o1,h1,h2,o3,c,c']
  ·simp [o0,o1,o2,o3,q0,q1]
 by_cases o4:14 ≤ op ∧ op ≤ 16
 ·obtain ⟨a,b,rfl⟩:=l2 (by
   have h1:¬ (op = 1):=by omega
   have h2:¬ (op = 2):=by omega
   have h3:¬ (op = 19):=by omega
   have h4:¬ (op = 20):=by omega
   have h5:¬ (op = 21):=by omega
   have h6:3 ≤ op ∧ op ≤ 16:=by omega
   simp [o0,o1,h1,h2,h3,h4,h5,h6] at hl; omega)
  refine ⟨a.W == b.W && w == 1,?_,?_⟩
  ·have h1 : ¬ (op = 1) := by omega
   have h2:¬ (op = 2):=by omega
   simp [g0,g1,o0,o1,h1,h2,o3,o4]
  ·simp [o0,o1,o2,o3,o4,q0,q1]
 by_cases o5:op = 17
 ·subst o5
  obtain ⟨a,b,c,rfl⟩:=l3 (by simp at hl; omega)
  refine ⟨a.W == 1 && b.W == w && c.W == w,?_,?_⟩
  ·by_cases c1 : a.W = 1
   ·by_cases c2 : b.W = w
    ·simp [g0,g1,g2,c1,c2]
    ·have c2' : (b.W == w) = false := by simpa using c2
     simp [g0,g1,g2,c1,c2,c2']
   ·have c1' : (a.W == 1) = false := by simpa using c1
    simp [g0,g1,g2,c1,c1']
  ·simp
 by_cases o6:op = 18
 ·subst o6
  obtain ⟨a,b,rfl⟩:=l2 (by simp at hl; omega)
  have ha:=hk a (by simp)
  have hb:=hk b (by simp)
  have e18:w64 (a.W + b.W) = a.W + b.W:=Ze (by omega) (by omega)
  exact ⟨a.W + b.W == w,by simp [g0,g1,e18],by simp⟩
 by_cases o7:op = 19
 ·subst o7
  obtain ⟨a,rfl⟩:=l1 (by simp at hl; omega)
  have ha:=hk a (by simp)
  have e19:w64 (a.W - w) = a.W - w:=Ze (by omega) (by omega)
  refine ⟨decide (0 ≤ m) && decide (m ≤ a.W - w),?_,?_⟩
  ·by_cases c : 0 ≤ m
   ·simp [g0,e19,c]
   ·simp [g0,e19,c]
  ·simp only [ZnE, Zoy]
   rw [Zpr]
   simp
   omega
 by_cases o8:20 ≤ op ∧ op ≤ 21
 ·have : op = 20 ∨ op = 21 := by omega
  obtain ⟨a,rfl⟩:=l1 (by rcases this with rfl | rfl <;> simp at hl <;> omega)
  refine ⟨decide (a.W ≤ w),?_,?_⟩
  ·rcases this with rfl | rfl <;> simp [g0]
  ·rcases this with rfl | rfl <;> simp
 exfalso
 have h1:¬ (op = 1):=by omega
 have h2:¬ (op = 2):=by omega
 have h4:¬ (op = 20):=by omega
 have h5:¬ (op = 21):=by omega
 have h6:¬ (3 ≤ op ∧ op ≤ 16):=by omega
 simp [o0,o1,h1,h2,o7,h4,h5,h6,o6,o5] at hl
theorem Zl4 {t:D.Term} (hl:¬ (t.Kids.length:Int) = kc t.Op):shB t.Op t.W t.N t.Name (t.Kids.map (·.W)) = false:=by
 obtain ⟨op,w,m,nm,ks⟩:=t
 simp only at hl ⊢
 unfold shB
 unfold kc Yv at hl
 have hks:ks = [] ∨ (∃ a:D.Term,ks = [a]) ∨ (∃ a b:D.Term,ks = [a,b]) ∨ (∃ a b c:D.Term,ks = [a,b,c]) ∨ ∃ (a b c d:D.Term) (l:List D.Term),ks = a :: b :: c :: d :: l:=by
  rcases ks with _ | ⟨a,_ | ⟨b,_ | ⟨c,_ | ⟨d,l⟩⟩⟩⟩
  ·exact .inl rfl
  ·exact .inr (.inl ⟨a,rfl⟩)
  ·exact .inr (.inr (.inl ⟨a,b,rfl⟩))
  ·exact .inr (.inr (.inr (.inl ⟨a,b,c,rfl⟩)))
  ·exact .inr (.inr (.inr (.inr ⟨a,b,c,d,l,rfl⟩)))
 by_cases o0:op = 0
 ·subst o0
  rcases hks with rfl | ⟨a,rfl⟩ | ⟨a,b,rfl⟩ | ⟨a,b,c,rfl⟩ | ⟨a,b,c,d,l,rfl⟩ <;> simp at hl ⊢
 by_cases o1:op = 22
 ·subst o1
  rcases hks with rfl | ⟨a,rfl⟩ | ⟨a,b,rfl⟩ | ⟨a,b,c,rfl⟩ | ⟨a,b,c,d,l,rfl⟩ <;> simp at hl ⊢
 by_cases o2:1 ≤ op ∧ op ≤ 2
 ·have : op = 1 ∨ op = 2 := by omega
  rcases this with rfl | rfl <;> rcases hks with rfl | ⟨a,rfl⟩ | ⟨a,b,rfl⟩ | ⟨a,b,c,rfl⟩ | ⟨a,b,c,d,l,rfl⟩ <;> simp at hl ⊢
 have h1:¬ (op = 1):=by omega
 have h2:¬ (op = 2):=by omega
 by_cases o3:3 ≤ op ∧ op ≤ 13
 ·have h3 : ¬ (op = 19) := by omega
  have h4:¬ (op = 20):=by omega
  have h5:¬ (op = 21):=by omega
  have h6:3 ≤ op ∧ op ≤ 16:=by omega
  simp [o0,o1,h1,h2,h3,h4,h5,h6] at hl
  rcases hks with rfl | ⟨a,rfl⟩ | ⟨a,b,rfl⟩ | ⟨a,b,c,rfl⟩ | ⟨a,b,c,d,l,rfl⟩ <;> simp [o0,o1,o2,o3] at hl ⊢
 by_cases o4:14 ≤ op ∧ op ≤ 16
 ·have h3 : ¬ (op = 19) := by omega
  have h4:¬ (op = 20):=by omega
  have h5:¬ (op = 21):=by omega
  have h6:3 ≤ op ∧ op ≤ 16:=by omega
  simp [o0,o1,h1,h2,h3,h4,h5,h6] at hl
  rcases hks with rfl | ⟨a,rfl⟩ | ⟨a,b,rfl⟩ | ⟨a,b,c,rfl⟩ | ⟨a,b,c,d,l,rfl⟩ <;> simp [o0,o1,o2,o3,o4] at hl ⊢
 by_cases o5:op = 17
 ·subst o5
  rcases hks with rfl | ⟨a,rfl⟩ | ⟨a,b,rfl⟩ | ⟨a,b,c,rfl⟩ | ⟨a,b,c,d,l,rfl⟩ <;> simp at hl ⊢
 by_cases o6:op = 18
 ·subst o6
  rcases hks with rfl | ⟨a,rfl⟩ | ⟨a,b,rfl⟩ | ⟨a,b,c,rfl⟩ | ⟨a,b,c,d,l,rfl⟩ <;> simp at hl ⊢
 by_cases o7:op = 19
 ·subst o7
  rcases hks with rfl | ⟨a,rfl⟩ | ⟨a,b,rfl⟩ | ⟨a,b,c,rfl⟩ | ⟨a,b,c,d,l,rfl⟩ <;> simp at hl ⊢
 by_cases o8:20 ≤ op ∧ op ≤ 21
 ·have : op = 20 ∨ op = 21 := by omega
  rcases this with rfl | rfl <;> rcases hks with rfl | ⟨a,rfl⟩ | ⟨a,b,rfl⟩ | ⟨a,b,c,rfl⟩ | ⟨a,b,c,d,l,rfl⟩ <;> simp at hl ⊢
 simp [o0,o1,o2,o3,o4,o5,o6,o7,o8]
abbrev tab (m:Option (List (Str × Int))):List (Str × Int):=m.getD []
theorem get2 {g:List (Str × Int)} {s:Str} (hs:s.bytes.length ≤ 1048576):mget2? fitS (0:Int) g s = some ((g.lookup s).getD 0,(g.lookup s).isSome):=by
 unfold mget2?
 rw [ZnC (by unfold fitS; simp; omega)]
theorem put1 {g:List (Str × Int)} {s:Str} {w:Int} (hs:s.bytes.length ≤ 1048576) (hw:1 ≤ w ∧ w ≤ 16) (hg:g.length ≤ 1000):mputE? fitS fitZ g s w = some ((s,w) :: g):=by
 unfold mputE?
 rw [ZnC ⟨by unfold fitS; simp; omega,by unfold fitZ; simp [Lit.wf]; exact ⟨by show (-9223372036854775808:Int) ≤ w; omega,by omega⟩,by unfold room; omega⟩]
theorem ZX {n:Nat} {c:D.termCheck} {t:D.Term} (hs:t.Name.bytes.length ≤ 1048576) (hn:1048580 ≤ n) (hw:1 ≤ t.W ∧ t.W ≤ 16) (hg:(tab c.widths).length ≤ 1000) :
  ∃ b m,Ye n c t = some (b,⟨c.count,m⟩) ∧ (b = true → nameB t.Name = true ∧ stp (tab c.widths) (t.Name,t.W) = some (tab m)) ∧ (b = false → nameB t.Name = false ∨ stp (tab c.widths) (t.Name,t.W) = none):=by
 obtain ⟨cc,ww⟩:=c
 unfold Ye
 rw [Zjp hs (by omega)]
 simp only [Zn4]
 cases hb:nameB t.Name
 ·exact ⟨false,ww,rfl,fun h=>(by cases h),fun _=>.inl rfl⟩
 ·simp only [ZnY, Zn6, ZnI]
  cases ww with
  | none=>
   simp only [Option.isNone_none,ZnV]
   rw [get2 hs]
   simp only [Zn4,List.lookup_nil,Zqf,Zn6,ZnI]
   rw [put1 hs hw (by simp)]
   exact ⟨true,_,rfl,fun _=>⟨trivial,rfl⟩,fun h=>(by cases h)⟩
  | some g=>
   simp only [Option.isNone_some,Zn6,ZnI,Zol]
   rw [get2 hs]
   simp only [Zn4]
   unfold stp
   simp only [tab,Zol] at hg ⊢
   cases hl:g.lookup t.Name with
   | some w=>
    simp only [Option.isSome_some,ZnV,Zol]
    refine ⟨_,_,rfl,fun h=>⟨trivial,?_⟩,fun h=>.inr ?_⟩
    ·rw [ZnC (by simpa using h)]; rfl
    ·rw [ZnA (by simpa using h)]
   | none=>
    simp only [Zqf,Zn6,ZnI]
    rw [put1 hs hw hg]
    exact ⟨true,_,rfl,fun _=>⟨trivial,rfl⟩,fun h=>(by cases h)⟩
theorem Zfu {n:Nat} {ks:List D.Term} {c0:Int} {w0:Option (List (Str × Int))} (hn:1048580 ≤ n) (hks:ks.length ≤ 1048576) (hc:0 ≤ c0) (hc':c0 ≤ 240) (hg:(tab w0).length ≤ c0)
    (ih:∀ x ∈ ks,∀ c:D.termCheck,c0 ≤ c.count → c.count ≤ 240 → (tab c.widths).length ≤ c.count → ∃ b c',Zy n c x = some (b,c') ∧
      (b = true → c.count + cnt x ≤ 240 ∧ nodeB x = true ∧ c'.count = c.count + cnt x ∧ runV (tab c.widths) (vrs x) = some (tab c'.widths)) ∧ (b = false → ¬ (c.count + cnt x ≤ 240 ∧ nodeB x = true ∧ (runV (tab c.widths) (vrs x)).isSome = true))) :
    ∃ r,iterN (fun (s2:Int × Int × (Option (List (Str × Int))))=>
        if (decide (s2.1 < (len ks))) then
          (get? ks s2.1).bind fun x7=>
          (Zy n (D.termCheck.mk s2.2.1 s2.2.2) x7).bind fun x8=>
          if (!x8.1) then
            some (.inr (.inr (false,x8.2)))
          else
            some (.inl ((w64 (s2.1 + 1)),x8.2.count,x8.2.widths))
        else
          some (.inr (.inl (s2.2.1,s2.2.2)))
      ) n (0,c0,w0) = some (r:(Int × (Option (List (Str × Int)))) ⊕ (Bool × D.termCheck)) ∧
      ((∃ cc ww, r = .inl (cc, ww) ∧ cc = c0 + cnts ks ∧ cc ≤ 240 ∧ nodesB ks = true ∧ runV (tab w0) (vrss ks) = some (tab ww)) ∨
       ∃ c',r = .inr (false,c') ∧ ¬ (c0 + cnts ks ≤ 240 ∧ nodesB ks = true ∧ (runV (tab w0) (vrss ks)).isSome = true)):=by
  have hrl:=Zey
  exact Yk (l := ks) (n := n) (σ := Int × (Option (List (Str × Int)))) (ρ := (Int × (Option (List (Str × Int)))) ⊕ (Bool × D.termCheck)) (B := fun (s2 : Int × Int × (Option (List (Str × Int)))) =>
        if (decide (s2.1 < (len ks))) then
          (get? ks s2.1).bind fun x7=>
          (Zy n (D.termCheck.mk s2.2.1 s2.2.2) x7).bind fun x8=>
          if (!x8.1) then
            some (.inr (.inr (false,x8.2)))
          else
            some (.inl ((w64 (s2.1 + 1)),x8.2.count,x8.2.widths))
        else
          some (.inr (.inl (s2.2.1,s2.2.2)))) (fun k a=>((k:Int),a.1,a.2))
      (fun ys a=>c0 ≤ a.1 ∧ a.1 ≤ 240 ∧ (tab a.2).length ≤ a.1 ∧ a.1 + cnts ys = c0 + cnts ks ∧ nodesB ys = nodesB ks ∧ runV (tab a.2) (vrss ys) = runV (tab w0) (vrss ks) ∧ ∀ x ∈ ys,x ∈ ks) _
      (fun k x xs a hk' hx hlen ⟨i0,i1,i2,i3,i4,i5,i6⟩=>by
        obtain ⟨ac,aw⟩:=a
        simp only at i0 i1 i2 i3 i5
        rw [ZaV] at i3
        rw [Yl,Zqy,← Yl] at i4
        rw [Xj,ZgO] at i5
        have hd:decide ((k:Int) < len ks) = true:=by rw [Za]; simp; omega
        obtain ⟨b,c',e1,e2,e3⟩:=ih x (i6 x (by simp)) ⟨ac,aw⟩ i0 i1 i2
        simp only [hd,ZnV,get?_nat,hx,Zn4,e1]
        cases b with
        | false =>
          refine .inr ⟨_,rfl,.inr ⟨c',rfl,fun ⟨h1,h2,h3⟩=>e3 rfl ⟨?_,?_,?_⟩⟩⟩
          · simp only; omega
          · rw [← i4,ZnB] at h2; exact h2.1
          · rw [← i5] at h3
            simp only
            cases hq:runV (tab aw) (vrs x) with
            | none=>rw [hq] at h3; cases h3
            | some _=>rfl
        | true =>
          obtain ⟨h1,h2,h3,h4⟩:=e2 rfl
          simp only at h1 h3 h4
          refine .inl ⟨(c'.count,c'.widths),by simp only [ZnY,Zn6,ZnI]; rw [Ze (by omega) (by omega)]; rfl,by simp only; omega,by simp only; omega,?_,by simp only; omega,by rw [← i4,h2,ZoK],?_,fun y hy=>i6 y (by simp [hy])⟩
          · have := Zeq h4
            have:=hrl x
            simp only; omega
          · rw [h4] at i5; exact i5)
      (fun a ⟨i0,i1,i2,i3,i4,i5,i6⟩=>by
        obtain ⟨ac,aw⟩:=a
        have hd:decide ((ks.length:Int) < len ks) = false:=by rw [Za]; simp
        simp only [hd,Zn6,ZnI]
        rw [ZaX] at i3
        rw [ZaD] at i5
        refine ⟨_,rfl,.inl ⟨ac,aw,rfl,by simp only at i3; omega,i1,?_,i5.symm⟩⟩
        rw [← i4,Yl]; rfl) (a:=(c0,w0)) ⟨by simp only; omega,hc',hg,rfl,rfl,rfl,fun x hx=>hx⟩ (by omega)
end Go.Proofs.YthlolmkdppfioaaGreat
end
